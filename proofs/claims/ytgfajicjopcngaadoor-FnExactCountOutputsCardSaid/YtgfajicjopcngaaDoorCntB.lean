/- impl.linesOf, impl.CountOutputs: the lines of a text counted, by strings.Split. -/
import Derived.Test.YtgfajicjopcngaaDoorCntS
import Derived.Test.YtgfajicjopcngaaDoorShelf
namespace Go.Proofs.YtgfajicjopcngaaDoor
open Go.RowKit Go.Fl

theorem splitC (s : ByteArray) (hs : s.size ≤ 1048576) (w : World) (mx : Int) (hm : w.cell? ⟨0, 0, none⟩ = some (.int .i64 mx)) :
    Calls Tryd.prog 9 #[.string s, .string ⟨#[10]⟩] w fun e w' => ∃ b, e = .returned (.slice (some ⟨b, 0, none⟩) (nl s + 1) (nl s + 1)) ∧
      Hid (SlS w' b (pieces s 10)) ∧ w.heap.size ≤ b ∧ Hid (Below w.heap.size w w') := by
  refine (Tryd.strings_Split s ⟨#[10]⟩ mx w (by omega) hm (by decide)).mono ?_
  rintro e w' ⟨rfl, rfl⟩
  have hn := nl_le s
  have hl := pieces_nl s
  refine ⟨w.heap.size, rfl, ?_, Nat.le_refl _, Below.alloc (Below.refl _ _) (Nat.le_refl _) _⟩
  rw [splitB_pieces s 10]
  have h : OwnC (w.alloc (.cells ((pieces s 10).map Value.string).toArray 9)) w.heap.size ((pieces s 10).map Value.string).toArray 9 := heap_alloc_new w _
  intro i hi
  rw [h.cell]
  simp [sAt, hi]

set_option maxHeartbeats 1000000 in
theorem linesOf (s : ByteArray) (hs : s.size ≤ 1048576) (w : World) (mx : Int) (hm : w.cell? ⟨0, 0, none⟩ = some (.int .i64 mx)) :
    Calls Tryd.prog 7 #[.string s] w fun e w' => ∃ b cap, e = .returned (.tuple #[.slice (some ⟨b, 0, none⟩) (nl s) cap, .bool (okTxt s)]) ∧
      Hid (SlS w' b (pieces s 10)) ∧ w.heap.size ≤ b ∧ Hid (Below w.heap.size w w') := by
  have hl := pieces_nl s
  have hn := nl_le s
  have k1 : ((nl s + 1 : Nat) : Int) - 1 = ((nl s : Nat) : Int) := by omega
  have k2 : ((nl s : Nat) : Int) ≤ ((nl s + 1 : Nat) : Int) := by omega
  have k3 : (0 : Int) ≤ ((nl s : Nat) : Int) := by omega
  have k4 : ((nl s : Nat) : Int) < ((nl s + 1 : Nat) : Int) := by omega
  go_enter Tryd.func7, Tryd.ntmps7
  by_cases hsz : s.size ≤ 16000
  · have hsz1 : (s.size : Int) ≤ 16000 := by omega
    cases hl2 : ((sAt (pieces s 10) (nl s)).toList == ([] : List UInt8))
    all_goals
      have hok : okTxt s = _ := (show okTxt s = ((sAt (pieces s 10) (nl s)).toList == []) by simp [okTxt, hsz]).trans hl2
      go_wp2_with (go_at_call 9; refine (splitC s hs _ mx hm).mono ?_; rintro e w1 ⟨b, rfl, HS, hb, hB⟩; have c1 := HS.out (nl s) (by omega))
      go_quiet (fail)
      go_wp2_with fail
      go_ret2
      refine ⟨b, nl s + 1, ?_, HS, hb, below_dr hB.out _⟩
      rw [hok]
      first | rfl | (simp [hl2]; done) | trace_state
  · have hsz1 : decide ((s.size : Int) ≤ 16000) = false := by simp; omega
    have hok : okTxt s = false := by simp [okTxt, hsz]
    go_wp2_with (go_at_call 9; refine (splitC s hs _ mx hm).mono ?_; rintro e w1 ⟨b, rfl, HS, hb, hB⟩; have c1 := HS.out (nl s) (by omega))
    go_quiet (fail)
    go_wp2_with fail
    go_ret2
    refine ⟨b, nl s + 1, ?_, HS, hb, below_dr hB.out _⟩
    rw [hok]
    first | rfl | trace_state

set_option maxHeartbeats 1000000 in
theorem cntB (s : ByteArray) (hs : s.size ≤ 1048576) (w : World) (mx : Int) (hm : w.cell? ⟨0, 0, none⟩ = some (.int .i64 mx)) :
    Calls Tryd.prog 5 #[.string s] w fun e w' => e = .returned (outs s) ∧ Below w.heap.size w w' := by
  have hl := pieces_nl s
  have hn := nl_le s
  go_enter Tryd.func5, Tryd.ntmps5
  by_cases hok : okTxt s = true
  · go_wp2_with (go_at_call 7; refine (linesOf s hs _ mx hm).mono ?_; rintro e w1 ⟨b, cap, rfl, HS, hb, hB⟩)
    go_loop [7, 9, 19] (fun x _ i => ∃ j : Nat, j ≤ nl s ∧ i = .int .i64 j ∧ x = .int .i64 (badN (pieces s 10) j : Nat)) (fun _ _ i => nl s - (intOf i).toNat)
    case atStart => exact ⟨0, by omega, rfl, rfl⟩
    case round =>
      obtain ⟨j, hj, rfl, rfl⟩ := hrel
      have hble := badN_le (pieces s 10) j
      have k0 : (0 : Int) ≤ (j : Int) := by omega
      by_cases hlt : j < nl s
      · have k1 : (j : Int) < (nl s : Int) := by omega
        have c1 := HS.out j (by omega)
        cases hb1 : ((sAt (pieces s 10) j).toList == [110, 111]) <;> cases hb2 : ((sAt (pieces s 10) j).toList == [119, 104, 97, 116])
        all_goals go_wp2_with fail
        all_goals exact ⟨⟨j + 1, by omega, by go_num, by simp [badN, isBad, hb1, hb2]⟩, by simp [intOf]; omega⟩
      · have hjn : j = nl s := by omega
        subst hjn
        go_wp2_with fail
        go_ret3
        rw [outs, hok]
        exact ⟨rfl, hB.out⟩
  · have hok : okTxt s = false := by simpa using hok
    go_wp2_with (go_at_call 7; refine (linesOf s hs _ mx hm).mono ?_; rintro e w1 ⟨b, cap, rfl, HS, hb, hB⟩)
    go_ret3
    rw [outs, hok]
    exact ⟨rfl, hB.out⟩
end Go.Proofs.YtgfajicjopcngaaDoor

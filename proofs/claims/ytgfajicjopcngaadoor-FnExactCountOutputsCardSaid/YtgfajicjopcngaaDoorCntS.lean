/- spec.l08Lines, spec.CountOutputs: the lines of a text counted. -/
import Derived.Test.YtgfajicjopcngaaDoorCutS
import Derived.Deep.QuietTactic
import Derived.BigQuiet
import Derived.OwnWalk
import Derived.Deep.RegionHeld3
namespace Go.Fl
def sAt (ps : List ByteArray) (i : Nat) : ByteArray := ps.getD i ⟨#[]⟩
/-- a line that tells an error -/
def isBad (b : ByteArray) : Bool := b.toList == [110, 111] || b.toList == [119, 104, 97, 116]
def badN (ps : List ByteArray) : Nat → Nat
  | 0 => 0
  | k + 1 => badN ps k + (if isBad (sAt ps k) then 1 else 0)
theorem badN_le (ps : List ByteArray) : ∀ k, badN ps k ≤ k
  | 0 => Nat.le_refl _
  | k + 1 => by have := badN_le ps k; unfold badN; split <;> omega
/-- how many newlines -/
def nl (s : ByteArray) : Nat := Go.Lib.countB s ⟨#[10]⟩
def okTxt (s : ByteArray) : Bool := decide (s.size ≤ 16000) && ((sAt (pieces s 10) (nl s)).toList == [])
/-- the answer -/
def outs (s : ByteArray) : Value :=
  if okTxt s then .tuple #[.int .i64 (badN (pieces s 10) (nl s)), .int .i64 ((nl s : Int) - badN (pieces s 10) (nl s)), .bool true]
  else .tuple #[.int .i64 0, .int .i64 0, .bool false]
def SlS (w : World) (b : Nat) (ps : List ByteArray) : Prop := ∀ i, i < ps.length → w.cell? ⟨b, i, none⟩ = some (.string (sAt ps i))
theorem pieces_nl (s : ByteArray) : (pieces s 10).length = nl s + 1 := pieces_len s 10
theorem nl_le (s : ByteArray) : nl s ≤ s.size := by
  have h : Go.Lib.countB s ⟨#[10]⟩ = s.data.toList.count 10 := Go.Lib.count_one 10 _
  unfold nl
  rw [h, ← size_list s]
  exact List.count_le_length
theorem SlS.row {w : World} {T : TypeId} {b cap n : Nat} {ps : List ByteArray} (h : ORow w T 1 b cap n (ps.map Value.string)) (hn : n = ps.length) : SlS w b ps := fun i hi => by
  rw [h.cell i (by omega), List.getElem?_map, List.getElem?_eq_getElem hi, sAt, List.getD_eq_getElem?_getD, List.getElem?_eq_getElem hi]
  rfl
theorem ORow.cap_ge {w : World} {e : TypeId} {size b cap n : Nat} {cs : List Value} (h : ORow w e size b cap n cs) : n ≤ cap := by
  obtain ⟨_, hr⟩ := h
  rcases hr with ⟨hn, _⟩ | ⟨g, c, cur, hv, hb, hg, h1, h2, h3, h4⟩
  · cases hn
  · have : cap = c := by simpa using (Value.slice.inj hv).2.2
    omega
end Go.Fl
namespace Go.Proofs.YtgfajicjopcngaaDoor
open Go.RowKit Go.Fl

set_option maxHeartbeats 1000000 in
theorem l08Lines (s : ByteArray) (hs : s.size ≤ 1048576) (w : World) :
    Calls Tryd.prog 6 #[.string s] w fun e w' => ∃ b cap, e = .returned (.tuple #[.slice (some ⟨b, 0, none⟩) (nl s) cap, .string (sAt (pieces s 10) (nl s))]) ∧
      Hid (SlS w' b (pieces s 10)) ∧ w.heap.size ≤ b ∧ Below w.heap.size w w' := by
  have hl := pieces_nl s
  have hn := nl_le s
  go_enter Tryd.func6, Tryd.ntmps6
  go_wp2_with (go_at_call 8; refine (l01Cut _ 10 _ rfl hs _).mono ?_; rintro e w1 ⟨b, cap, rfl, hr, hb, hB⟩; have HS := Lib.hid (SlS.row hr rfl); have hcap := hr.cap_ge; rw [hl] at hcap; rw [hl]; have k1 : ((nl s + 1 : Nat) : Int) - 1 = ((nl s : Nat) : Int) := (by omega); have k2 : ((nl s : Nat) : Int) ≤ (cap : Int) := (by omega); have k3 : (0 : Int) ≤ ((nl s : Nat) : Int) := (by omega); have k4 : ((nl s : Nat) : Int) < ((nl s + 1 : Nat) : Int) := (by omega); have c1 := HS.out (nl s) (by omega); clear hr)
  go_quiet (fail)
  go_wp2_with fail
  go_ret2
  exact ⟨b, cap, rfl, HS, hb, below_dr hB _⟩

set_option maxHeartbeats 1000000 in
theorem cntS (s : ByteArray) (hs : s.size ≤ 1048576) (w : World) :
    Calls Tryd.prog 4 #[.string s] w fun e w' => e = .returned (outs s) ∧ Below w.heap.size w w' := by
  have hl := pieces_nl s
  have hn := nl_le s
  go_enter Tryd.func4, Tryd.ntmps4
  by_cases hsz : s.size ≤ 16000
  · have hsz1 : ¬ (16000 : Int) < (s.size : Int) := by omega
    by_cases hlast : (sAt (pieces s 10) (nl s)).toList = []
    · have hl2 : ((sAt (pieces s 10) (nl s)).toList == ([] : List UInt8)) = true := by rw [hlast]; rfl
      have hok : okTxt s = true := by simp [okTxt, hsz, hlast]
      go_wp2_with (go_at_call 6; refine (l08Lines s hs _).mono ?_; rintro e w1 ⟨b, cap, rfl, HS, hb, hB⟩)
      go_loop [7, 8] (fun x i => ∃ j : Nat, j ≤ nl s ∧ i = .int .i64 j ∧ x = .int .i64 (badN (pieces s 10) j : Nat)) (fun _ i => nl s - (intOf i).toNat)
      case atStart => exact ⟨0, by omega, rfl, rfl⟩
      case round =>
        obtain ⟨j, hj, rfl, rfl⟩ := hrel
        have hble := badN_le (pieces s 10) j
        have k0 : (0 : Int) ≤ (j : Int) := by omega
        by_cases hlt : j < nl s
        · have k1 : (j : Int) < (nl s : Int) := by omega
          have c1 := HS.out j (by omega)
          cases hb1 : ((sAt (pieces s 10) j).toList == [110, 111]) <;> cases hb2 : ((sAt (pieces s 10) j).toList == [119, 104, 97, 116])
          all_goals go_wp2_with fail
          all_goals exact ⟨⟨j + 1, by omega, by go_num, by simp [badN, isBad, hb1, hb2]⟩, by simp [intOf]; omega⟩
        · have hjn : j = nl s := by omega
          subst hjn
          go_wp2_with fail
          go_ret3
          rw [outs, hok]
          exact ⟨rfl, hB⟩
    · have hl2 : ((sAt (pieces s 10) (nl s)).toList == ([] : List UInt8)) = false := by simpa using hlast
      have hok : okTxt s = false := by simp [okTxt, hlast]
      go_wp2_with (go_at_call 6; refine (l08Lines s hs _).mono ?_; rintro e w1 ⟨b, cap, rfl, HS, hb, hB⟩)
      go_ret3
      rw [outs, hok]
      exact ⟨rfl, hB⟩
  · have hsz1 : (16000 : Int) < (s.size : Int) := by omega
    go_wp2_with fail
    go_ret3
    have : okTxt s = false := by simp [okTxt, hsz]
    rw [outs, this]
    exact ⟨rfl, Below.refl _ _⟩
end Go.Proofs.YtgfajicjopcngaaDoor

/- impl.recovered, impl.RecoverJournal: the lines of a journal found again, by the library's words. -/
import Derived.Test.YtkkijjgdjaedeaaDoorRcvS
import Derived.Test.YtkkijjgdjaedeaaDoorDecB
import Derived.Test.YtkkijjgdjaedeaaDoorShelf
namespace Go.Proofs.YtkkijjgdjaedeaaDoor
open Go.RowKit Go.Fl

theorem idx_yes (s : ByteArray) (k : Nat) (h : k < nl s) (w : World) :
    Calls Tryd.prog 15 #[.string (s.extract (rpos (pieces s 10) k) s.size), .int .u8 10] w fun e w' => e = .returned (.int .i64 ((sAt (pieces s 10) k).size : Nat)) ∧ w' = w := by
  refine (Tryd.strings_IndexByte _ 10 w).mono ?_
  rintro e w' ⟨rfl, rfl⟩
  refine ⟨?_, rfl⟩
  have h10 : ((10 : Int).toNat.toUInt8 : UInt8) = 10 := rfl
  rw [h10, (next_line s k h).1]
theorem idx_no (s : ByteArray) (w : World) :
    Calls Tryd.prog 15 #[.string (s.extract (rpos (pieces s 10) (nl s)) s.size), .int .u8 10] w fun e w' => e = .returned (.int .i64 (-1)) ∧ w' = w := by
  refine (Tryd.strings_IndexByte _ 10 w).mono ?_
  rintro e w' ⟨rfl, rfl⟩
  refine ⟨?_, rfl⟩
  have h10 : ((10 : Int).toNat.toUInt8 : UInt8) = 10 := rfl
  rw [h10, (no_line s).1]
theorem cut_yes (L : ByteArray) (hL : L.size ≤ 1048576) (h : 0 ≤ spc L) (m : Int) (w : World) (hm : w.cell? ⟨0, 0, none⟩ = some (.int .i64 m)) :
    Calls Tryd.prog 16 #[.string L, .string ⟨#[32]⟩] w fun e w' => e = .returned (.tuple #[.string (wordL L), .string (tailL L), .bool true]) ∧ ∃ n, w' = w.drewN n := by
  refine (Tryd.strings_Cut L ⟨#[32]⟩ m w (by omega) hm).mono ?_
  rintro e w' ⟨rfl, hn⟩
  refine ⟨?_, hn⟩
  have e1 : (⟨#[32]⟩ : ByteArray).data.toList = [32] := rfl
  have e2 : Lib.index L.data.toList [32] = spc L := index_byte _ _
  obtain ⟨j, hj, hlt⟩ := (spc_lt L).resolve_left (by omega)
  rw [e1, Lib.cut, e2, if_pos h]
  simp only [wordL, tailL, extract_piece, List.drop_zero, Nat.sub_zero, List.length_singleton]
  rw [List.take_of_length_le (i := L.size - _) (by rw [List.length_drop, size_list]; omega)]
theorem cut_no (L : ByteArray) (hL : L.size ≤ 1048576) (h : spc L < 0) (m : Int) (w : World) (hm : w.cell? ⟨0, 0, none⟩ = some (.int .i64 m)) :
    Calls Tryd.prog 16 #[.string L, .string ⟨#[32]⟩] w fun e w' => e = .returned (.tuple #[.string L, .string ⟨#[]⟩, .bool false]) ∧ ∃ n, w' = w.drewN n := by
  refine (Tryd.strings_Cut L ⟨#[32]⟩ m w (by omega) hm).mono ?_
  rintro e w' ⟨rfl, hn⟩
  refine ⟨?_, hn⟩
  have e1 : (⟨#[32]⟩ : ByteArray).data.toList = [32] := rfl
  have e2 : Lib.index L.data.toList [32] = spc L := index_byte _ _
  rw [e1, Lib.cut, e2, if_neg (by omega), bytes_self]

set_option maxHeartbeats 1000000 in
theorem recoveredP (s : ByteArray) (ps : List ByteArray) (hps : pieces s 10 = ps) (hs : s.size ≤ 16000) (mx : Int) (w : World) (hm : w.cell? ⟨0, 0, none⟩ = some (.int .i64 mx)) (ht : Tab w) :
    Calls Tryd.prog 10 #[.string s] w fun e w' => ∃ m b cap, EndsJ ps (nl s) m ∧ e = .returned (.tuple #[.slice (some ⟨b, 0, none⟩) m cap, .int .i64 (rpos ps m : Nat)]) ∧
      Hid (ORow w' 9 1 b cap m ((rout ps m).map Value.string)) ∧ w.heap.size ≤ b ∧ Below w.heap.size w w' := by
  have hn := nl_le s
  have hline : ∀ k, k < nl s → (sAt ps k).size ≤ s.size ∧ s.extract (rpos ps k) (rpos ps k + (sAt ps k).size) = sAt ps k ∧ rpos ps k + (sAt ps k).size + 1 ≤ s.size := fun k h => hps ▸ ⟨line_le s h, (next_line s k h).2⟩
  have hrpos : ∀ k, k ≤ nl s → rpos ps k ≤ s.size := fun k h => hps ▸ rpos_le s h
  have hyes : ∀ k, k < nl s → ∀ w : World, Calls Tryd.prog 15 #[.string (s.extract (rpos ps k) s.size), .int .u8 10] w fun e w' => e = .returned (.int .i64 ((sAt ps k).size : Nat)) ∧ w' = w := fun k h w => hps ▸ idx_yes s k h w
  have hno : ∀ w : World, Calls Tryd.prog 15 #[.string (s.extract (rpos ps (nl s)) s.size), .int .u8 10] w fun e w' => e = .returned (.int .i64 (-1)) ∧ w' = w := fun w => hps ▸ idx_no s w
  have HL2 := Lib.hid hline
  have HL3 := Lib.hid hrpos
  have HY := Lib.hid hyes
  have HN := Lib.hid hno
  have HT := Lib.hid ht
  have HM := Lib.hid hm
  clear hps hline hrpos hyes hno ht hm
  go_enter Tryd.func10, Tryd.ntmps10
  go_wp2_with fail
  go_loopw [4, 5, 6, 7, 8, 9, 10, 11, 12] (fun o c p _ _ _ _ _ _ wr => ∃ k b cap : Nat, k ≤ nl s ∧ c = .int .i64 (rch ps k) ∧ p = .int .i64 (rpos ps k : Nat) ∧ o = .slice (some ⟨b, 0, none⟩) k cap ∧ Hid (∀ i, i < k → GoodJ ps i) ∧ Hid (ORow wr 9 1 b cap k ((rout ps k).map Value.string)) ∧ w.heap.size ≤ b ∧ Hid (Below w.heap.size w wr)) (fun _ _ p _ _ _ _ _ _ _ => s.size - (intOf p).toNat)
  case atStart =>
    refine ⟨0, w.heap.size, 0, by omega, rfl, rfl, rfl, fun i h => absurd h (Nat.not_lt_zero _), ORow.new _ _ _, Nat.le_refl _, Below.alloc (Below.refl _ _) (Nat.le_refl _) _⟩
  case round =>
    obtain ⟨k, b, cap, hk, rfl, rfl, rfl, HG, HR, hbb, HW⟩ := hrel
    have hz := HW.out.size
    have hrp := HL3.out k hk
    have p0 : (0 : Int) ≤ (rpos ps k : Int) := by omega
    have p1 : (rpos ps k : Int) ≤ (s.size : Int) := by omega
    by_cases hlt : k < nl s
    · obtain ⟨hls, hex, hnx⟩ := HL2.out k hlt
      have hm2 := keep_cell HW.out HM.out
      have HM2 := Lib.hid hm2
      clear hm2
      have hyes := HY.out k hlt wr
      generalize hL : sAt ps k = L at *
      have HL := Lib.hid hL
      have HYK := Lib.hid hyes
      clear hL hyes
      have q0 : ¬ (L.size : Int) < 0 := by omega
      have q1 : (rpos ps k : Int) ≤ (rpos ps k : Int) + (L.size : Int) := by omega
      have q2 : (rpos ps k : Int) + (L.size : Int) ≤ (s.size : Int) := by omega
      have hrr := rch_range ps k
      have hrr2 := rch_range ps (k + 1)
      have htz := tailL_size L
      by_cases hsp : 0 ≤ spc L
      · have hck : chN (rch ps k) (tailL L) (tailL L).size = rch ps (k + 1) := by rw [rch, HL.out]
        have HSP := Lib.hid hsp
        clear hsp
        cases hq : ((wordL L).toList == Lib.itoa (rch ps (k + 1)))
        · have hng := not_good_ne HL.out hq
          have HNG := Lib.hid hng
          clear hng
          go_wp2_with (first | (go_at_call 15; refine HYK.out.mono ?_; rintro e w2 ⟨rfl, rfl⟩) | (go_at_call 16; refine (cut_yes L (by omega) HSP.out mx _ HM2.out).mono ?_; rintro e w3 ⟨rfl, n3, rfl⟩) | (go_at_call 17; refine (checkOf _ hrr.1 hrr.2 (tailL L) (by omega) _).mono ?_; rintro e w4 ⟨rfl, rfl⟩; rw [hck]) | (go_at_call 18; refine (decimal _ (by omega) (by omega) _ (HT.out.on (below_dr HW.out _))).mono ?_; rintro e w5 ⟨rfl, hb5⟩; have HB5 := Lib.hid hb5; clear hb5; have HR5 := Lib.hid (ORow.below (show ORow (w2.drewN n3) 9 1 b cap k _ from HR.out) HB5.out HR.out.lt); have HW5 := Lib.hid ((below_dr HW.out n3).trans (HB5.out.mono hz))))
          go_ret2
          first
            | exact ⟨k, ⟨hk, HG.out, .inr HNG.out⟩, b, cap, rfl, HR5, hbb, HW5.out⟩
            | exact ⟨k, b, cap, ⟨hk, HG.out, .inr HNG.out⟩, rfl, HR5, hbb, HW5.out⟩
        · have HGK := Lib.hid (good_of HL.out HSP.out hq)
          go_wp2_with (first | (go_at_call 15; refine HYK.out.mono ?_; rintro e w2 ⟨rfl, rfl⟩) | (go_at_call 16; refine (cut_yes L (by omega) HSP.out mx _ HM2.out).mono ?_; rintro e w3 ⟨rfl, n3, rfl⟩) | (go_at_call 17; refine (checkOf _ hrr.1 hrr.2 (tailL L) (by omega) _).mono ?_; rintro e w4 ⟨rfl, rfl⟩; rw [hck]) | (go_at_call 18; refine (decimal _ (by omega) (by omega) _ (HT.out.on (below_dr HW.out _))).mono ?_; rintro e w5 ⟨rfl, hb5⟩; have HB5 := Lib.hid hb5; clear hb5; have HR5 := Lib.hid (ORow.below (show ORow (w2.drewN n3) 9 1 b cap k _ from HR.out) HB5.out HR.out.lt); have HW5 := Lib.hid ((below_dr HW.out n3).trans (HB5.out.mono hz))) | (at_builtin; refine wpList_app rfl _ _ _ rfl 9 (.string ⟨#[]⟩) 1 16 Tryd.underlying22 infoStr rfl (by decide) _ #[.string (tailL L)] 9 rfl (by simp [Value.oneCell']) b cap _ _ rfl rfl HR5.out (by omega) (by decide) ?_; intro b6 cap6 w6 hr6 hg6 hgr6; have HR6 := Lib.hid hr6; have HW6 := Lib.hid (HW5.out.trans (hgr6.below hbb HW5.out.size)); clear hr6 hgr6))
          have hrs : rpos ps (k + 1) = rpos ps k + (L.size + 1) := by rw [rpos_succ, HL.out]
          have hz5 := HW5.out.size
          refine ⟨⟨k + 1, b6, cap6, by omega, rfl, by rw [hrs]; go_num, rfl, good_succ HG.out HGK.out, ?_, by omega, HW6⟩, by simp [intOf]; omega⟩
          have := HR6.out
          rw [rout_succ, HL.out]
          simp only [List.map_append, List.map_cons, List.map_nil]
          exact this
      · have HSP := Lib.hid (show spc L < 0 by omega)
        have HNG : Hid (¬ GoodJ ps k) := Lib.hid (fun ⟨h1, _⟩ => hsp (by rw [HL.out] at h1; exact h1))
        clear hsp
        go_wp2_with (first | (go_at_call 15; refine HYK.out.mono ?_; rintro e w2 ⟨rfl, rfl⟩) | (go_at_call 16; refine (cut_no L (by omega) HSP.out mx _ HM2.out).mono ?_; rintro e w3 ⟨rfl, n3, rfl⟩) | (go_at_call 17; refine (checkOf _ hrr.1 hrr.2 ⟨#[]⟩ (by decide) _).mono ?_; rintro e w4 ⟨rfl, rfl⟩))
        go_ret2
        first
          | exact ⟨k, ⟨hk, HG.out, .inr HNG.out⟩, b, cap, rfl, HR, hbb, below_dr HW.out _⟩
          | exact ⟨k, b, cap, ⟨hk, HG.out, .inr HNG.out⟩, rfl, HR, hbb, below_dr HW.out _⟩
    · have hkk : k = nl s := by omega
      subst hkk
      have HNK := Lib.hid (HN.out wr)
      go_wp2_with (go_at_call 15; refine HNK.out.mono ?_; rintro e w2 ⟨rfl, rfl⟩)
      go_ret2
      exact ⟨nl s, b, cap, ⟨Nat.le_refl _, HG.out, .inl rfl⟩, rfl, HR, hbb, HW.out⟩

theorem rcvB (s : ByteArray) (mx : Int) (w : World) (hm : w.cell? ⟨0, 0, none⟩ = some (.int .i64 mx)) (ht : Tab w) :
    Calls Tryd.prog 5 #[.string s] w fun e w' => ∃ ao cap xs p ok, RecJ s xs p ok ∧ e = .returned (.tuple #[.slice ao (List.length xs) cap, .int .i64 (p : Nat), .bool ok]) ∧
      OwnS w' w.heap.size w'.heap.size ao xs ∧ Below w.heap.size w w' := by
  have HT := Lib.hid ht
  have HM := Lib.hid hm
  clear ht hm
  go_enter Tryd.func5, Tryd.ntmps5
  by_cases hsz : s.size ≤ 16000
  · have hsz1 : ¬ (16000 : Int) < (s.size : Int) := by omega
    go_wp2_with (go_at_call 10; refine (recoveredP s _ rfl hsz mx _ HM.out HT.out).mono ?_; rintro e w1 ⟨m, b, cap, hE, rfl, HR, hb, hB⟩)
    go_ret3
    refine ⟨some ⟨b, 0, none⟩, cap, rout (pieces s 10) m, rpos (pieces s 10) m, true, .inl ⟨hsz, rfl, m, hE, rfl, rfl⟩, by rw [rout_len]; rfl, ownS_row HR.out (rout_len _ _).symm hb HR.out.lt, hB⟩
  · have hsz1 : (16000 : Int) < (s.size : Int) := by omega
    go_wp2_with fail
    go_ret3
    exact ⟨none, 0, [], 0, false, .inr ⟨by omega, rfl, rfl, rfl⟩, rfl, fun h => absurd h (Nat.not_lt_zero _), Below.refl _ _⟩
end Go.Proofs.YtkkijjgdjaedeaaDoor

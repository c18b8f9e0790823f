/- impl.readList, ReadList: a text of whole numbers read, the program's. -/
import Derived.Test.YtlpgaekkhlinhaaGreatDoorRhS
import Derived.Test.YtlpgaekkhlinhaaGreatDoorRnB
import Derived.Test.YtlpgaekkhlinhaaGreatDoorDecI
namespace Go.Fl
open Go.RowKit
theorem mem_join {c : List UInt8} : ∀ (L : List (List UInt8)) (x : List UInt8), x ∈ L → x.length ≤ (Lib.join L c).length
  | [], _, h => nomatch h
  | [a], x, h => by
    obtain rfl : x = a := by simpa using h
    rw [Lib.join_one]; exact Nat.le_refl _
  | a :: b :: r, x, h => by
    rw [join_cons2]
    simp only [List.length_append]
    rcases List.mem_cons.1 h with rfl | h
    · omega
    · have := mem_join (c := c) (b :: r) x h
      omega
theorem piece_le (s : ByteArray) (c : UInt8) {k : Nat} (h : k < (pieces s c).length) : (sAt (pieces s c) k).size ≤ s.size := by
  have hl : k < (cutL c s.data.toList).length := by rw [← pieces_cut_len]; exact h
  have hm := mem_join (c := [c]) (cutL c s.data.toList) _ (List.getElem_mem hl)
  rw [join_cutL, ← piece_data s c h, size_list, size_list] at hm
  exact hm
end Go.Fl
namespace Go.Proofs.YtlpgaekkhlinhaaGreatDoor
open Go.RowKit Go.Fl

set_option maxHeartbeats 4000000 in
set_option maxRecDepth 100000 in
theorem readList (s : ByteArray) (hs : s.size ≤ 1048576) (w : World) (hm : Mx w) (he : Er w) (hg : Eg w) (htb : Tab w) :
    Calls Tryz.prog 57 #[.string s] w fun e w' => (∀ ns, RdInts s ns → ∃ b cap, e = .returned (.tuple #[.slice (some ⟨b, 0, none⟩) ns.length cap, .bool true]) ∧ ORow w' 2 1 b cap ns.length (ns.map (Value.int .i64)) ∧ w.heap.size ≤ b) ∧
      ((∀ ns, ¬ RdInts s ns) → e = .returned (.tuple #[.slice none 0 0, .bool false])) ∧ Below w.heap.size w w' := by
  have HM := Lib.hid hm
  have HE := Lib.hid he
  have HG := Lib.hid hg
  have HTB := Lib.hid htb
  clear hm he hg htb
  have HB0 := Lib.hid (show Below w.heap.size w (w.alloc (.cells #[] 2)) from Below.alloc (Below.refl _ w) (Nat.le_refl _) _)
  have HO0 := Lib.hid (ORow.new w 2 1)
  by_cases hnone : s.data.toList = noneL
  · have HN := Lib.hid hnone
    go_enter Tryz.func57, Tryz.ntmps57
    go_wp2_with (go_at_call 48; refine (pieces_none s HN.out _).mono ?_; rintro e w1 ⟨rfl, rfl⟩)
    refine wp_loop_rounds 1 ?_
    rw [rounds_succ]
    go_wp2_with fail
    go_ret2
    refine ⟨fun ns h => ?_, fun h => absurd (.inl ⟨HN.out, rfl⟩) (h []), HB0.out⟩
    obtain rfl := h.unique (.inl ⟨HN.out, rfl⟩)
    exact ⟨_, _, rfl, HO0.out, Nat.le_refl _⟩
  have HNE := Lib.hid hnone
  have HPC := Lib.hid (pieces_some s hs hnone (w.alloc (.cells #[] 2)) (HM.out.on HB0.out))
  have hpl : (pieces s 44).length ≤ s.size + 1 := by
    have := stR_len s 44 (j := s.size + 1) (Nat.le_refl _)
    rw [stR_all] at this; exact this
  have HSZ := Lib.hid (fun i (h : i < (pieces s 44).length) => Nat.le_trans (piece_le s 44 h) hs)
  clear hnone
  go_enter Tryz.func57, Tryz.ntmps57
  go_wp2_with fail
  refine HPC.out.mono ?_
  rintro e w1 ⟨rfl, hst, hz1, hb1⟩
  simp only [World.size_alloc] at hst hz1
  have HST := Lib.hid hst
  have HB1 := Lib.hid (HB0.out.trans (hb1.mono (by simp)))
  have HO1 := Lib.hid (HO0.out.below hb1 (by simp))
  clear hst hb1
  go_wp2_with fail
  go_loopw [4, 13] (fun out i wr => ∃ (k b cap : Nat) (ys : List Int), k ≤ (pieces s 44).length ∧ i = .int .i64 k ∧ out = .slice (some ⟨b, 0, none⟩) k cap ∧ Hid (GotI s k ys) ∧ Hid (ORow wr 2 1 b cap k (ys.map (Value.int .i64))) ∧ Hid (SlT wr (w.heap.size + 1) (w.heap.size + 1 + 1) (some ⟨w.heap.size + 1, 0, none⟩) (pieces s 44)) ∧ w.heap.size ≤ b ∧ b ≠ w.heap.size + 1 ∧ w.heap.size + 1 < wr.heap.size ∧ Hid (Below w.heap.size w wr)) (fun _ i _ => (pieces s 44).length - (intOf i).toNat)
  case atStart => exact ⟨0, w.heap.size, 0, [], by omega, rfl, rfl, GotI.zero _, HO1, HST, Nat.le_refl _, by omega, by omega, HB1⟩
  case round =>
    obtain ⟨k, b, cap, ys, hk, rfl, rfl, HGT, HR, HP, hbb, hbne, hzr, HW⟩ := hrel
    have hz := HW.out.size
    by_cases hlt : k < (pieces s 44).length
    · obtain ⟨bp, op, hbo, _, _, hc⟩ := HP.out (by omega)
      obtain ⟨rfl, rfl⟩ : w.heap.size + 1 = bp ∧ 0 = op := by cases hbo; exact ⟨rfl, rfl⟩
      have c1 := hc k hlt
      rw [Nat.zero_add] at c1
      have hsz := HSZ.out k hlt
      have HNR : Hid ((∀ n, ¬ RdInt (sAt (pieces s 44) k).data.toList n) → ∀ ns, ¬ RdInts s ns) := Lib.hid fun h ns => no_ints HNE.out hlt h ns
      have HGS : Hid (∀ n, RdInt (sAt (pieces s 44) k).data.toList n → GotI s (k + 1) (ys ++ [n])) := Lib.hid fun n h => HGT.out.succ h
      generalize sAt (pieces s 44) k = L at *
      have k0 : (0 : Int) ≤ (k : Int) := by omega
      have k1 : (k : Int) < ((pieces s 44).length : Int) := by omega
      have HRDD := Lib.hid (readDecimal L hsz wr (HE.out.on HW.out) (HG.out.on HW.out) (HTB.out.on HW.out))
      clear hc hbo
      go_wp2_with fail
      refine HRDD.out.mono ?_
      rintro e w4 ⟨hy, hn, hb4⟩
      have hz4 := hb4.size
      have HR4 := Lib.hid (HR.out.below hb4 HR.out.lt)
      have HP4 := Lib.hid (HP.out.far (Far.below hb4 (by omega)))
      have HW4 := Lib.hid (HW.out.trans (hb4.mono hz))
      by_cases hex : ∃ n, RdInt L.data.toList n
      · obtain ⟨n, hrn⟩ := hex
        obtain rfl := hy n hrn
        have HG2 := Lib.hid (HGS.out n hrn)
        clear hy hn hb4 hrn c1 HR HP HW HRDD
        go_wp2_with (at_builtin; refine wpList_app rfl _ _ _ rfl 2 (.int .i64 0) 1 8 Tryz.underlying55 infoI64 rfl (by decide) _ #[_] 2 rfl (by simp [Value.oneCell']) b cap _ _ rfl rfl HR4.out (by omega) (by decide) ?_; intro b' cap' w6 hr hg hgr)
        have hrl2 := HR4.out.lt
        have hgz := hgr.size
        go_roundw
        case rel =>
          refine ⟨k + 1, b', cap', ys ++ [n], by omega, by go_num, rfl, HG2, ?_, Lib.hid (HP4.out.far fun c h1 h2 => hgr.block c (by omega) (by omega)), by omega, by omega, by omega, Lib.hid (HW4.out.trans (hgr.below hbb HW4.out.size))⟩
          rw [List.map_append]; exact Lib.hid hr
        case measure => simp [intOf]; omega
      · have hno : ∀ n, ¬ RdInt L.data.toList n := fun n h => hex ⟨n, h⟩
        obtain rfl := hn hno
        have HNO := Lib.hid (HNR.out hno)
        clear hy hn hb4 hno hex c1
        go_wp2_with fail
        go_ret2
        exact ⟨fun ns h => absurd h (HNO.out ns), fun _ => rfl, HW4.out⟩
    · have hkk : k = (pieces s 44).length := by omega
      subst hkk
      have HRD := Lib.hid (show RdInts s ys from .inr ⟨HNE.out, HGT.out⟩)
      have hl := HGT.out.1
      go_wp2_with fail
      go_ret2
      refine ⟨fun ns h => ?_, fun h => absurd HRD.out (h ys), HW.out⟩
      obtain rfl := h.unique HRD.out
      exact ⟨b, cap, by rw [hl]; rfl, by rw [hl]; exact HR.out, hbb⟩

set_option maxHeartbeats 1000000 in
set_option maxRecDepth 100000 in
theorem implReadList (s : ByteArray) (hs : s.size ≤ 1048576) (w : World) (hm : Mx w) (he : Er w) (hg : Eg w) (htb : Tab w) : Calls Tryz.prog 33 #[.string s] w (RetL 2 s w) := by
  go_enter Tryz.func33, Tryz.ntmps33
  go_wp2_with fail
  refine (readList s hs w hm he hg htb).mono ?_
  rintro e w1 ⟨hy, hn, hb⟩
  have HB := Lib.hid hb
  by_cases hex : ∃ ns, RdInts s ns
  · obtain ⟨ns, hr⟩ := hex
    obtain ⟨b, cap, rfl, hrow, hbb⟩ := hy ns hr
    have HRW := Lib.hid hrow
    have HRD := Lib.hid hr
    clear hy hn hrow hr hb
    by_cases h64 : ns.length ≤ 64
    · have g : ¬ (64 : Int) < (ns.length : Int) := by omega
      go_wp2_with fail
      go_ret2
      refine ⟨fun ms h _ => ?_, fun h => absurd h64 (h ns HRD.out), HB.out⟩
      obtain rfl := h.unique HRD.out
      exact ⟨b, cap, rfl, HRW.out, hbb⟩
    · have g : (64 : Int) < (ns.length : Int) := by omega
      go_wp2_with fail
      go_ret2
      refine ⟨fun ms h k => ?_, fun _ => rfl, HB.out⟩
      obtain rfl := h.unique HRD.out
      exact absurd k h64
  · have hno : ∀ ns, ¬ RdInts s ns := fun ns h => hex ⟨ns, h⟩
    obtain rfl := hn hno
    have HNO := Lib.hid hno
    clear hy hn hno hex hb
    go_wp2_with fail
    go_ret2
    exact ⟨fun ns h _ => absurd h (HNO.out ns), fun _ => rfl, HB.out⟩
end Go.Proofs.YtlpgaekkhlinhaaGreatDoor

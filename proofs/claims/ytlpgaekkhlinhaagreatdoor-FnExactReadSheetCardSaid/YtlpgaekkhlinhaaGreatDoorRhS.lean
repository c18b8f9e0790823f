/- spec.l01Numbers: a text of whole numbers read, the reference's. -/
import Derived.Test.YtlpgaekkhlinhaaGreatDoorRdI
namespace Go.Fl
open Go.RowKit
/-- the first k pieces are numbers in range -/
def GotI (s : ByteArray) (k : Nat) (ys : List Int) : Prop := ys.length = k ∧ ∀ i, i < k → RdInt (sAt (pieces s 44) i).data.toList (ys.getD i 0)
theorem GotI.zero (s : ByteArray) : GotI s 0 [] := ⟨rfl, fun i h => absurd h (Nat.not_lt_zero _)⟩
theorem GotI.succ {s : ByteArray} {k : Nat} {ys : List Int} (h : GotI s k ys) {n : Int} (hn : RdInt (sAt (pieces s 44) k).data.toList n) : GotI s (k + 1) (ys ++ [n]) := ⟨by simp [h.1], fun i hi => by
  by_cases e : i = k
  · subst e
    have : (ys ++ [n]).getD i 0 = n := by simp [← h.1]
    rw [this]; exact hn
  · have hl : i < ys.length := by rw [h.1]; omega
    have : (ys ++ [n]).getD i 0 = ys.getD i 0 := by simp [List.getElem?_append_left hl]
    rw [this]; exact h.2 i (by omega)⟩
/-- the numbers that a text of whole numbers tells -/
def RdInts (s : ByteArray) (ns : List Int) : Prop := (s.data.toList = noneL ∧ ns = []) ∨ (s.data.toList ≠ noneL ∧ GotI s (pieces s 44).length ns)
theorem RdInts.unique {s : ByteArray} {ns ms : List Int} (h : RdInts s ns) (k : RdInts s ms) : ns = ms := by
  rcases h with ⟨h1, rfl⟩ | ⟨h1, h2⟩
  · rcases k with ⟨_, rfl⟩ | ⟨k1, _⟩
    · rfl
    · exact absurd h1 k1
  · rcases k with ⟨k1, _⟩ | ⟨_, k2⟩
    · exact absurd k1 h1
    · refine List.ext_getElem (by rw [h2.1, k2.1]) fun i a b => ?_
      have := (h2.2 i (by rw [← h2.1]; exact a)).unique (k2.2 i (by rw [← h2.1]; exact a))
      simpa [a, b] using this
theorem no_ints {s : ByteArray} (hne : s.data.toList ≠ noneL) {k : Nat} (hk : k < (pieces s 44).length) (h : ∀ n, ¬ RdInt (sAt (pieces s 44) k).data.toList n) (ns : List Int) : ¬ RdInts s ns := fun hr => by
  rcases hr with ⟨e, _⟩ | ⟨_, g⟩
  · exact hne e
  · exact h _ (g.2 k hk)
/-- what the reading of a list returns; few: at most 64 -/
structure RetL (T : TypeId) (s : ByteArray) (w0 : World) (e : Ending) (w' : World) : Prop where
  yes : ∀ ns, RdInts s ns → ns.length ≤ 64 → ∃ b cap, e = .returned (.tuple #[.slice (some ⟨b, 0, none⟩) ns.length cap, .bool true]) ∧ ORow w' T 1 b cap ns.length (ns.map (Value.int .i64)) ∧ w0.heap.size ≤ b
  no : (∀ ns, RdInts s ns → ¬ ns.length ≤ 64) → e = .returned (.tuple #[.slice none 0 0, .bool false])
  below : Below w0.heap.size w0 w'
end Go.Fl
namespace Go.Proofs.YtlpgaekkhlinhaaGreatDoor
open Go.RowKit Go.Fl

theorem infoI64 : (Tryz.prog.info? 2).map (fun i => (i.zero, i.size, i.bytes)) = some (some (.int .i64 0), 1, 8) := by kernel_rfl

set_option maxHeartbeats 4000000 in
set_option maxRecDepth 100000 in
theorem l01Numbers (s : ByteArray) (hs : s.size ≤ 1048576) (w : World) : Calls Tryz.prog 55 #[.string s] w (RetL 2 s w) := by
  cases hnone : (s.toList == [110, 111, 110, 101])
  rotate_left
  · have he : s.data.toList = noneL := by rw [← ByteArray.toList_eq]; exact eq_of_beq hnone
    have HE := Lib.hid he
    clear he
    go_enter Tryz.func55, Tryz.ntmps55
    go_wp2_with fail
    go_ret2
    refine ⟨fun ns h _ => ?_, fun h => absurd (by decide : ([] : List Int).length ≤ 64) (h [] (.inl ⟨HE.out, rfl⟩)), Below.alloc (Below.refl _ _) (Nat.le_refl _) _⟩
    obtain rfl := h.unique (.inl ⟨HE.out, rfl⟩)
    exact ⟨_, _, rfl, ORow.new w _ _, Nat.le_refl _⟩
  have hne : s.data.toList ≠ noneL := by
    intro e
    rw [ByteArray.toList_eq, e] at hnone
    exact absurd hnone (by decide)
  have HNE := Lib.hid hne
  have hpl : (pieces s 44).length ≤ s.size + 1 := by
    have := stR_len s 44 (j := s.size + 1) (Nat.le_refl _)
    rw [stR_all] at this; exact this
  clear hne
  go_enter Tryz.func55, Tryz.ntmps55
  by_cases hmany : 64 < (pieces s 44).length
  · have hm : (64 : Int) < ((pieces s 44).length : Int) := by omega
    have HNO : Hid (∀ ns, RdInts s ns → ¬ ns.length ≤ 64) := Lib.hid fun ns h => by
      rcases h with ⟨e, _⟩ | ⟨_, g⟩
      · exact absurd e HNE.out
      · rw [g.1]; omega
    clear hmany
    go_wp2_with (go_at_call 43; refine (l01Cut s 44 44 rfl hs _).mono ?_; rintro e w1 ⟨bp, cp, rfl, hr1, hb1, hbel1⟩)
    go_ret2
    exact ⟨fun ns h k => absurd k (HNO.out ns h), fun _ => rfl, Below.trans (Below.alloc (Below.refl _ _) (Nat.le_refl _) _) (hbel1.mono (by simp))⟩
  have hm : ¬ (64 : Int) < ((pieces s 44).length : Int) := by omega
  go_wp2_with (go_at_call 43; refine (l01Cut s 44 44 rfl hs _).mono ?_; rintro e w1 ⟨bp, cp, rfl, hr1, hb1, hbel1⟩)
  have HP1 := Lib.hid hr1
  have hbp : w.heap.size < bp := by simp at hb1; omega
  have HB1 := Lib.hid (Below.trans (Below.alloc (Below.refl _ w) (Nat.le_refl _) (.cells #[] 2)) (hbel1.mono (by simp)))
  have HO1 := Lib.hid ((ORow.new w 2 1).below hbel1 (by simp))
  clear hr1 hb1 hbel1
  go_loopw [4, 6] (fun out i wr => ∃ (k b cap : Nat) (ys : List Int), k ≤ (pieces s 44).length ∧ i = .int .i64 k ∧ out = .slice (some ⟨b, 0, none⟩) k cap ∧ Hid (GotI s k ys) ∧ Hid (ORow wr 2 1 b cap k (ys.map (Value.int .i64))) ∧ Hid (ORow wr 9 1 bp cp (pieces s 44).length ((pieces s 44).map Value.string)) ∧ w.heap.size ≤ b ∧ b ≠ bp ∧ Hid (Below w.heap.size w wr)) (fun _ i _ => (pieces s 44).length - (intOf i).toNat)
  case atStart => exact ⟨0, w.heap.size, 0, [], by omega, rfl, rfl, GotI.zero _, HO1, HP1, Nat.le_refl _, by omega, HB1⟩
  case round =>
    obtain ⟨k, b, cap, ys, hk, rfl, rfl, HG, HR, HP, hbb, hbne, HW⟩ := hrel
    have hz := HW.out.size
    by_cases hlt : k < (pieces s 44).length
    · have c1 := HP.out.cell k (by omega)
      rw [List.getElem?_map, List.getElem?_eq_getElem hlt] at c1
      have hps : (pieces s 44)[k] = sAt (pieces s 44) k := by simp [sAt, hlt]
      rw [hps] at c1
      replace c1 : wr.cell? ⟨bp, k, none⟩ = some (.string (sAt (pieces s 44) k)) := c1
      have HNR : Hid ((∀ n, ¬ RdInt (sAt (pieces s 44) k).data.toList n) → ∀ ns, ¬ RdInts s ns) := Lib.hid fun h ns => no_ints HNE.out hlt h ns
      have HGS : Hid (∀ n, RdInt (sAt (pieces s 44) k).data.toList n → GotI s (k + 1) (ys ++ [n])) := Lib.hid fun n h => HG.out.succ h
      generalize sAt (pieces s 44) k = L at *
      have k0 : (0 : Int) ≤ (k : Int) := by omega
      have k1 : (k : Int) < ((pieces s 44).length : Int) := by omega
      clear hps
      go_wp2_with fail
      refine (l01Value L _).mono ?_
      rintro e w4 ⟨hy, hn, hb4⟩
      have hz4 := hb4.size
      have HR4 := Lib.hid (HR.out.below hb4 HR.out.lt)
      have HP4 := Lib.hid (HP.out.below hb4 HP.out.lt)
      have HW4 := Lib.hid (HW.out.trans (hb4.mono hz))
      by_cases hex : ∃ n, RdInt L.data.toList n
      · obtain ⟨n, hrn⟩ := hex
        obtain rfl := hy n hrn
        have HG2 := Lib.hid (HGS.out n hrn)
        clear hy hn hb4 hrn c1 HR HP HW
        go_wp2_with (at_builtin; refine wpList_app rfl _ _ _ rfl 2 (.int .i64 0) 1 8 Tryz.underlying55 infoI64 rfl (by decide) _ #[_] 2 rfl (by simp [Value.oneCell']) b cap _ _ rfl rfl HR4.out (by omega) (by decide) ?_; intro b' cap' w6 hr hg hgr)
        have hpl2 := HP4.out.lt
        have hrl2 := HR4.out.lt
        go_roundw
        case rel =>
          refine ⟨k + 1, b', cap', ys ++ [n], by omega, by go_num, rfl, HG2, ?_, Lib.hid (HP4.out.grew hgr (fun e => hbne e.symm)), by omega, by omega, Lib.hid (HW4.out.trans (hgr.below hbb HW4.out.size))⟩
          rw [List.map_append]; exact Lib.hid hr
        case measure => simp [intOf]; omega
      · have hno : ∀ n, ¬ RdInt L.data.toList n := fun n h => hex ⟨n, h⟩
        obtain rfl := hn hno
        have HNO := Lib.hid (HNR.out hno)
        clear hy hn hb4 hno hex c1
        go_wp2_with fail
        go_ret2
        exact ⟨fun ns h _ => absurd h (HNO.out ns), fun _ => rfl, HW4.out⟩
    · have hkk : k = (pieces s 44).length := by omega
      subst hkk
      have HRD := Lib.hid (show RdInts s ys from .inr ⟨HNE.out, HG.out⟩)
      have hl := HG.out.1
      go_wp2_with fail
      go_ret2
      refine ⟨fun ns h _ => ?_, fun h => absurd (by rw [hl]; omega) (h ys HRD.out), HW.out⟩
      obtain rfl := h.unique HRD.out
      exact ⟨b, cap, by rw [hl]; rfl, by rw [hl]; exact HR.out, hbb⟩
end Go.Proofs.YtlpgaekkhlinhaaGreatDoor

/- spec.l01Value: a decimal text read, the reference's. -/
import Derived.Test.YtlpgaekkhlinhaaGreatDoorDecS
import Derived.Test.YtlpgaekkhlinhaaGreatDoorRdS
namespace Go.Fl
open Go.RowKit
/-- what the reading of a decimal text returns -/
def RetI (l : List UInt8) (w0 : World) (e : Ending) (w' : World) : Prop :=
  (∀ n, RdInt l n → e = .returned (.tuple #[.int .i64 n, .bool true])) ∧ ((∀ n, ¬ RdInt l n) → e = .returned (.tuple #[.int .i64 0, .bool false])) ∧ Below w0.heap.size w0 w'
theorem RetI.none {l : List UInt8} {w0 w' : World} (h : ∀ n, ¬ RdInt l n) (hb : Below w0.heap.size w0 w') : RetI l w0 (.returned (.tuple #[.int .i64 0, .bool false])) w' := ⟨fun n k => absurd k (h n), fun _ => rfl, hb⟩
theorem RetI.some {l : List UInt8} {w0 w' : World} {n : Int} (h : RdInt l n) (hb : Below w0.heap.size w0 w') : RetI l w0 (.returned (.tuple #[.int .i64 n, .bool true])) w' := ⟨fun m k => by rw [h.unique k], fun k => absurd h (k n), hb⟩
theorem RdInt.size {l : List UInt8} {n : Int} (h : RdInt l n) : 1 ≤ l.length ∧ l.length ≤ 17 := by rw [h.2.2]; exact itoa_size n h.1 h.2.1
theorem dVal_take (s : ByteArray) {k : Nat} (hk : k < s.size) : dVal (s.data.toList.take (k + 1)) = dStep (dVal (s.data.toList.take k)) s[k] := by
  rw [List.take_succ_eq_append_getElem (by rw [size_list]; exact hk), dVal_snoc]
  congr 1
theorem dVal_take_lt (s : ByteArray) {k : Nat} (hk : k ≤ 17) : dVal (s.data.toList.take k) < 100000000000000000 := by
  have h := dVal_lt _ (s.data.toList.take k) rfl
  have hl : (s.data.toList.take k).length ≤ 17 := Nat.le_trans (List.length_take_le _ _) hk
  exact Nat.lt_of_lt_of_le h (Nat.le_trans (Nat.pow_le_pow_right (by decide) hl) (by decide))
theorem eq_text {s : ByteArray} {l : List UInt8} : (⟨l.toArray⟩ : ByteArray) = s ↔ s.data.toList = l := by
  constructor
  · intro h; rw [← h]
  · intro h; rw [← h]
end Go.Fl
namespace Go.Proofs.YtlpgaekkhlinhaaGreatDoor
open Go.RowKit Go.Fl

set_option maxHeartbeats 1000000 in
set_option maxRecDepth 100000 in
theorem l01Value (s : ByteArray) (w : World) : Calls Tryz.prog 61 #[.string s] w (RetI s.data.toList w) := by
  by_cases hs1 : s.size < 1
  · have HNO : Hid (∀ n, ¬ RdInt s.data.toList n) := Lib.hid fun n h => by have := h.size; rw [size_list] at this; omega
    have g : (s.size : Int) < 1 := by omega
    go_enter Tryz.func61, Tryz.ntmps61
    go_wp2_with fail
    go_ret2
    exact RetI.none HNO.out (Below.refl _ _)
  have g1 : ¬ (s.size : Int) < 1 := by omega
  by_cases hs2 : 17 < s.size
  · have HNO : Hid (∀ n, ¬ RdInt s.data.toList n) := Lib.hid fun n h => by have := h.size; rw [size_list] at this; omega
    have g : (17 : Int) < (s.size : Int) := by omega
    go_enter Tryz.func61, Tryz.ntmps61
    go_wp2_with fail
    go_ret2
    exact RetI.none HNO.out (Below.refl _ _)
  have g2 : ¬ (17 : Int) < (s.size : Int) := by omega
  go_enter Tryz.func61, Tryz.ntmps61
  go_wp2_with fail
  go_loopw [4, 5] (fun n i wr => ∃ k m : Nat, k ≤ s.size ∧ i = .int .i64 k ∧ n = .int .i64 m ∧ m < 100000000000000000 ∧ Hid (dVal (s.data.toList.take k) = m) ∧ wr = w) (fun _ i _ => s.size - (intOf i).toNat)
  case atStart => exact ⟨0, 0, by omega, rfl, rfl, by omega, rfl, rfl⟩
  case round =>
    obtain ⟨k, m, hk, rfl, rfl, hm, HD, rfl⟩ := hrel
    by_cases hlt : k < s.size
    · have k0 : (0 : Int) ≤ (k : Int) := by omega
      have k1 : (k : Int) < (s.size : Int) := by omega
      have hdt := dVal_take s hlt
      have hdl := dVal_take_lt s (k := k + 1) (by omega)
      rw [HD.out] at hdt
      rw [hdt] at hdl
      have hcl := s[k].toNat_lt
      obtain ⟨c, hc⟩ : ∃ c : Nat, c = s[k].toNat := ⟨_, rfl⟩
      unfold dStep at hdt hdl
      rw [← hc] at hdt hdl hcl
      have HC := Lib.hid hc
      have HT := Lib.hid hdt
      by_cases h48 : 48 ≤ c
      · by_cases h57 : c ≤ 57
        · rw [if_pos ⟨h48, h57⟩] at hdl
          have e1 : (48 : Int) ≤ (s[k].toNat : Int) := by omega
          have e2 : (s[k].toNat : Int) ≤ 57 := by omega
          clear hdt
          go_wp2_with fail
          go_roundw
          case rel =>
            refine ⟨k + 1, 10 * m + (c - 48), by omega, by go_num, ?_, hdl, Lib.hid (by rw [HT.out, if_pos ⟨h48, h57⟩]), trivial⟩
            have := HC.out
            congr 1
            omega
          case measure => simp [intOf]; omega
        · have e1 : (48 : Int) ≤ (s[k].toNat : Int) := by omega
          have e2 : ¬ (s[k].toNat : Int) ≤ 57 := by omega
          clear hdt hdl
          go_wp2_with fail
          go_roundw
          case rel => exact ⟨k + 1, m, by omega, by go_num, rfl, hm, Lib.hid (by rw [HT.out, if_neg (fun h => h57 h.2)]), trivial⟩
          case measure => simp [intOf]; omega
      · have e1 : ¬ (48 : Int) ≤ (s[k].toNat : Int) := by omega
        clear hdt hdl
        go_wp2_with fail
        go_roundw
        case rel => exact ⟨k + 1, m, by omega, by go_num, rfl, hm, Lib.hid (by rw [HT.out, if_neg (fun h => h48 h.1)]), trivial⟩
        case measure => simp [intOf]; omega
    · have hkk : k = s.size := by omega
      subst hkk
      have hlen : 0 < s.data.toList.length := by rw [size_list]; omega
      have hhead : s.data.toList.head? = some s[0] := by
        rw [List.head?_eq_getElem?, List.getElem?_eq_getElem hlen]; rfl
      have hall : dVal s.data.toList = m := by
        have := HD.out
        rwa [List.take_of_length_le (by rw [size_list]; exact Nat.le_refl _)] at this
      obtain ⟨x, hx⟩ : ∃ x : Int, x = sVal s.data.toList := ⟨_, rfl⟩
      have hsv := hx
      rw [sVal, hhead, hall] at hsv
      have HX : Hid (∀ n, RdInt s.data.toList n → n = x) := Lib.hid fun n h => by rw [hx, h.val]
      have h00 : (0 : Int) < (s.size : Int) := by omega
      have h0s : (0 : Int) ≤ 0 := by omega
      clear HD hhead hall hx
      -- what follows once the number is there
      have REST : ∀ wr : World, True := fun _ => trivial
      by_cases h45 : s[0] = 45
      · have e1 : ((s[0].toNat : Int) == 45) = true := by rw [h45]; rfl
        have e1' : (s[0].toNat : Int) = 45 := by rw [h45]; rfl
        rw [h45, if_pos rfl] at hsv
        clear h45
        by_cases hr : -1000000000000000 ≤ x ∧ x ≤ 1000000000000000
        · have HI := Lib.hid (in15 x)
          rw [decide_eq_true hr] at HI
          have HDc := Lib.hid (l01DecAll x hr.1 hr.2)
          rw [hsv] at HI HDc
          by_cases heq : s.data.toList = Lib.itoa x
          · have HY := Lib.hid (show RdInt s.data.toList x from ⟨hr.1, hr.2, heq⟩)
            have hb : (Lib.itoa (-(m : Int)) == s.toList) = true := by rw [← hsv, ByteArray.toList_eq, heq]; exact beq_self_eq_true _
            rw [hsv] at HY
            clear heq hr hsv
            go_wp2_with (first | (go_at_call 84; refine (HI.out _).mono ?_; rintro e w1 ⟨rfl, rfl⟩) | (go_at_call 85; refine (HDc.out _).mono ?_; rintro e w2 ⟨rfl, hb2⟩))
            go_ret2
            exact RetI.some HY.out hb2
          · have HNO : Hid (∀ n, ¬ RdInt s.data.toList n) := Lib.hid fun n h => heq (by rw [← HX.out n h]; exact h.2.2)
            have hb : (Lib.itoa (-(m : Int)) == s.toList) = false := by rw [← hsv, ByteArray.toList_eq]; exact beq_eq_false_iff_ne.2 (fun h => heq h.symm)
            clear heq hr hsv
            go_wp2_with (first | (go_at_call 84; refine (HI.out _).mono ?_; rintro e w1 ⟨rfl, rfl⟩) | (go_at_call 85; refine (HDc.out _).mono ?_; rintro e w2 ⟨rfl, hb2⟩))
            go_ret2
            exact RetI.none HNO.out hb2
        · have HI := Lib.hid (in15 x)
          rw [decide_eq_false hr, hsv] at HI
          have HNO : Hid (∀ n, ¬ RdInt s.data.toList n) := Lib.hid fun n h => hr (by rw [← HX.out n h]; exact ⟨h.1, h.2.1⟩)
          clear hr hsv
          go_wp2_with (go_at_call 84; refine (HI.out _).mono ?_; rintro e w1 ⟨rfl, rfl⟩)
          go_ret2
          exact RetI.none HNO.out (Below.refl _ _)
      · have e1 : ((s[0].toNat : Int) == 45) = false := by
          simp only [beq_eq_false_iff_ne]
          exact fun h => h45 (UInt8.toNat_inj.1 (by show s[0].toNat = 45; omega))
        have e1' : ¬ (s[0].toNat : Int) = 45 := by simpa using e1
        rw [if_neg (by simpa using h45)] at hsv
        clear h45
        by_cases hr : -1000000000000000 ≤ x ∧ x ≤ 1000000000000000
        · have HI := Lib.hid (in15 x)
          rw [decide_eq_true hr] at HI
          have HDc := Lib.hid (l01DecAll x hr.1 hr.2)
          rw [hsv] at HI HDc
          by_cases heq : s.data.toList = Lib.itoa x
          · have HY := Lib.hid (show RdInt s.data.toList x from ⟨hr.1, hr.2, heq⟩)
            have hb : (Lib.itoa (m : Int) == s.toList) = true := by rw [← hsv, ByteArray.toList_eq, heq]; exact beq_self_eq_true _
            rw [hsv] at HY
            clear heq hr hsv
            go_wp2_with (first | (go_at_call 84; refine (HI.out _).mono ?_; rintro e w1 ⟨rfl, rfl⟩) | (go_at_call 85; refine (HDc.out _).mono ?_; rintro e w2 ⟨rfl, hb2⟩))
            go_ret2
            exact RetI.some HY.out hb2
          · have HNO : Hid (∀ n, ¬ RdInt s.data.toList n) := Lib.hid fun n h => heq (by rw [← HX.out n h]; exact h.2.2)
            have hb : (Lib.itoa (m : Int) == s.toList) = false := by rw [← hsv, ByteArray.toList_eq]; exact beq_eq_false_iff_ne.2 (fun h => heq h.symm)
            clear heq hr hsv
            go_wp2_with (first | (go_at_call 84; refine (HI.out _).mono ?_; rintro e w1 ⟨rfl, rfl⟩) | (go_at_call 85; refine (HDc.out _).mono ?_; rintro e w2 ⟨rfl, hb2⟩))
            go_ret2
            exact RetI.none HNO.out hb2
        · have HI := Lib.hid (in15 x)
          rw [decide_eq_false hr, hsv] at HI
          have HNO : Hid (∀ n, ¬ RdInt s.data.toList n) := Lib.hid fun n h => hr (by rw [← HX.out n h]; exact ⟨h.1, h.2.1⟩)
          clear hr hsv
          go_wp2_with (go_at_call 84; refine (HI.out _).mono ?_; rintro e w1 ⟨rfl, rfl⟩)
          go_ret2
          exact RetI.none HNO.out (Below.refl _ _)
end Go.Proofs.YtlpgaekkhlinhaaGreatDoor

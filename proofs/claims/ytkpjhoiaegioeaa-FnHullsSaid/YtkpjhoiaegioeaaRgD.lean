/- slices.Clone at complex numbers, within; rings told; corners cut again and again. -/
import Derived.Test.YtkpjhoiaegioeaaRgC
namespace Go.Fl
open Go.RowKit
theorem cVs_one {l : List Cx} : ∀ u ∈ l.map cV, u.oneCell' = true := fun u hu => by
  obtain ⟨x, _, rfl⟩ := List.mem_map.1 hu
  rfl
theorem SlC.news {w : World} {lo hi b : Nat} {l : List Cx} (h : SlC w lo hi (some ⟨b, 0, none⟩) l) : ∀ j u, (l.map cV)[j]? = some u → w.cell? ((⟨b, 0, none⟩ : Addr).add j) = some u := fun j u hu => by
  have hj : j < l.length := by
    have := (List.getElem?_eq_some_iff.1 hu).1
    simpa using this
  obtain ⟨b', e, _, _, hc⟩ := h (by omega)
  cases e
  have hadd : (⟨b, 0, none⟩ : Addr).add j = ⟨b, j, none⟩ := by
    cases j
    · simp [Addr.add]
    · simp [Addr.add]
  rw [hadd, hc j hj, ← hu]
  simp [cAt, hj]
theorem PL.all {xs : List Cx} {ks : List Zp} {e B : Nat} (h : PL xs ks e B) : xs.all okPt = true := List.all_eq_true.2 fun z hz => by
  obtain ⟨i, hi, rfl⟩ := List.mem_iff_getElem.1 hz
  have := (h.pt i hi).1.ok
  have e : cAt xs i = xs[i] := by simp [cAt, hi]
  rw [e] at this
  exact this
theorem OwnC1.sl {w : World} {b lo hi : Nat} {xs : List Cx} (h : OwnC1 w b xs) (h1 : lo ≤ b) (h2 : b < hi) : SlC w lo hi (some ⟨b, 0, none⟩) xs := fun _ => ⟨b, rfl, h1, h2, h.2⟩
end Go.Fl
namespace Go.Proofs.Ytkpjhoiaegioeaa
open Go.RowKit Go.Fl

set_option maxHeartbeats 1000000 in
set_option maxRecDepth 100000 in
theorem cloneC (lo hi : Nat) (ao : Option Addr) (c : Nat) (xs : List Cx) (h0 : 0 < xs.length) (hn : xs.length ≤ 1048576) (w : World) (hs : SlC w lo hi ao xs) (hh : hi ≤ w.heap.size) :
    Calls Try.prog 31 #[.slice ao xs.length c] w fun e w' => (∃ b cap, e = .returned (.slice (some ⟨b, 0, none⟩) xs.length cap) ∧ w.heap.size ≤ b ∧ OwnC1 w' b xs) ∧ Below w.heap.size w w' := by
  obtain ⟨b0, rfl, l1, l2, _⟩ := hs h0
  have hsA : SlC (w.alloc (.cells #[] 26)) lo hi (some ⟨b0, 0, none⟩) xs := hs.far ((Far.refl _ _ _).alloc _ hh)
  have HS := Lib.hid hsA
  have HH0 := Lib.hid h0
  clear hs hsA h0
  have he : ∀ w : World, (binOp .eql 24 (.slice (some ⟨b0, 0, none⟩) xs.length c) (.slice none 0 0)).run Try.prog w = .ok (.bool false) w := fun _ => rfl
  go_enter Try.func31, Try.ntmps31
  go_wp2_with (at_builtin; refine wpList_spread rfl _ _ _ rfl 26 (.complex .f32 0 0) 1 8 Try.underlying24 infoCx rfl (by decide) _ w.heap.size 0 0 [] rfl (ORow.new w _ _) _ xs.length _ (xs.map cV) rfl (by simp) HS.out.news cVs_one HH0.out (by omega) (by decide) ?_; intro b1 cap1 w1 hr1 hb1 hl1 hg1)
  go_ret
  simp only [World.size_alloc] at hb1
  simp only [Nat.zero_add, List.nil_append] at hr1
  exact ⟨⟨b1, cap1, by simp, by omega, OwnC1.row hr1 rfl⟩, Below.trans (by (repeat (first | exact Below.refl _ _ | assumption | refine below_dr ?_ _ | refine Below.alloc ?_ (by first | omega | (simp; done) | (simp; omega)) _ | refine Below.setCell ?_ (by first | omega | (simp; done) | (simp; omega)) _ | refine Below.trans ?_ (Below.mono (by assumption) (by first | omega | (simp; done) | (simp; omega)))))) (hg1.below (Nat.le_refl _) (by simp))⟩
theorem withinB (n l h : Int) (w : World) : Calls Try.prog 43 #[.int .i64 n, .int .i64 l, .int .i64 h] w fun e w' => e = .returned (.bool (decide (l ≤ n) && decide (n ≤ h))) ∧ w' = w := by
  go_enter Try.func43, Try.ntmps43
  by_cases h1 : l ≤ n
  · by_cases h2 : n ≤ h
    · go_wp2_with fail
      go_ret
      exact ⟨ret_bool (by simp [h1, h2]), rfl⟩
    · go_wp2_with fail
      go_ret
      exact ⟨ret_bool (by simp [h1, h2]), rfl⟩
  · go_wp2_with fail
    go_ret
    exact ⟨ret_bool (by rw [decide_eq_false (show ¬ l ≤ n by omega)]; rfl), rfl⟩
theorem isRing {xs : List Cx} {ks : List Zp} {e B : Nat} (lo hi : Nat) (ao : Option Addr) (c n : Nat) (h : PL xs ks e B) (hn : xs.length = n) (h2 : 2 ≤ n) (h128 : n ≤ 128) (w : World) (hs : SlC w lo hi ao xs) :
    Calls Try.prog 28 #[.slice ao n c] w fun x w' => x = .returned (.bool true) ∧ ∃ q, w' = w.drewN q := by
  have ha := arePoints lo hi ao c xs (by omega) w hs
  have hb := h.all
  rw [hb, hn] at ha
  have HA := Lib.hid ha
  have n1 : (2 : Int) ≤ (n : Int) := by omega
  have n2 : (n : Int) ≤ 128 := by omega
  clear h hs hn ha hb
  go_enter Try.func28, Try.ntmps28
  go_wp2_with fail
  refine HA.out.mono ?_
  rintro e1 w1 ⟨rfl, q, rfl⟩
  go_wp2_with fail
  go_ret
  exact ⟨rfl, _, rfl⟩
theorem ifRing {xs : List Cx} {ks : List Zp} {e B : Nat} (lo hi : Nat) (ao : Option Addr) (c n : Nat) (h : PL xs ks e B) (hn : xs.length = n) (h2 : 2 ≤ n) (h128 : n ≤ 128) (w : World) (hs : SlC w lo hi ao xs) :
    Calls Try.prog 50 #[.slice ao n c] w fun x w' => x = .returned (.tuple #[.slice ao n c, .bool true]) ∧ ∃ q, w' = w.drewN q := by
  have HR := Lib.hid (isRing lo hi ao c n h hn h2 h128 w hs)
  clear h hs hn
  go_enter Try.func50, Try.ntmps50
  go_wp2_with fail
  refine HR.out.mono ?_
  rintro e1 w1 ⟨rfl, q, rfl⟩
  go_wp2_with fail
  go_ret2
  exact ⟨rfl, _, rfl⟩
theorem cutR {xs : List Cx} {ks : List Zp} {e B : Nat} {j : Int} (lo hi : Nat) (ao : Option Addr) (c s n : Nat) (closed : Bool) (h : PL xs ks e B) (hB : B ≤ 4096) (hn : xs.length = n) (hn2 : 2 ≤ n) (hn64 : n ≤ 64) (hs : Q .f32 s j 4) (h0 : 0 ≤ j) (h1 : j ≤ 8) (he : e ≤ 100) (w : World) (hsl : SlC w lo hi ao xs) (htop : hi ≤ w.heap.size) :
    Calls Try.prog 44 #[.slice ao n c, .bool closed, .float .f32 s] w fun x w' => (∃ b cap m, x = .returned (.slice (some ⟨b, 0, none⟩) m cap) ∧ m = 2 * n ∧ w.heap.size ≤ b ∧ OwnC1 w' b (cutF xs closed s)) ∧ Below w.heap.size w w' := by
  cases closed
  · exact cutOpen lo hi ao c s n h hB hn hn2 hn64 hs h0 h1 he w hsl htop
  · exact cutClosed lo hi ao c s n h hB hn hn2 hn64 hs h0 h1 he w hsl htop
def cutsF (xs : List Cx) (closed : Bool) (s : Nat) : Nat → List Cx
  | 0 => xs
  | t + 1 => cutF (cutsF xs closed s t) closed s
def cutsZ (ks : List Zp) (closed : Bool) (j : Int) : Nat → List Zp
  | 0 => ks
  | t + 1 => cutZ (cutsZ ks closed j t) closed j
theorem cuts_PL {xs : List Cx} {ks : List Zp} {e B s : Nat} {j : Int} {closed : Bool} (h : PL xs ks e B) (hs : Q .f32 s j 4) (h0 : 0 ≤ j) (h1 : j ≤ 8) (he : e ≤ 60) (hn : 2 ≤ xs.length) : ∀ t, t ≤ 8 → 16 ^ t * B ≤ 65536 →
    PL (cutsF xs closed s t) (cutsZ ks closed j t) (e + 4 * t) (16 ^ t * B) ∧ (cutsF xs closed s t).length = 2 ^ t * xs.length
  | 0, _, _ => ⟨by rw [Nat.pow_zero, Nat.one_mul]; exact h, by rw [Nat.pow_zero, Nat.one_mul]; rfl⟩
  | t + 1, ht, hB => by
    have e1 : 16 ^ (t + 1) * B = 16 * (16 ^ t * B) := by rw [Nat.pow_succ]; ac_rfl
    obtain ⟨h2, h3⟩ := cuts_PL (closed := closed) h hs h0 h1 he hn t (by omega) (by omega)
    have hl : 0 < (cutsF xs closed s t).length := by rw [h3]; exact Nat.mul_pos (Nat.two_pow_pos _) (by omega)
    refine ⟨?_, ?_⟩
    · rw [e1]
      exact cut_PL h2 (by omega) hs h0 h1 (show e + 4 * t ≤ 100 by omega) hl
    · show (cutF (cutsF xs closed s t) closed s).length = _
      rw [cutF_len _ _ _ hl, h3, Nat.pow_succ]; ac_rfl
set_option maxHeartbeats 2000000 in
set_option maxRecDepth 100000 in
theorem cutTimes {xs : List Cx} {ks : List Zp} {e B : Nat} {j : Int} (lo hi : Nat) (ao : Option Addr) (c s n t : Nat) (closed : Bool) (h : PL xs ks e B) (ht : t ≤ 6) (hB : 16 ^ t * B ≤ 65536) (hn : xs.length = n) (hn2 : 2 ≤ n) (hn128 : 2 ^ t * n ≤ 128) (hs : Q .f32 s j 4) (h0 : 0 ≤ j) (h1 : j ≤ 8) (he : e ≤ 60) (w : World) (hsl : SlC w lo hi ao xs) (htop : hi ≤ w.heap.size) :
    Calls Try.prog 17 #[.slice ao n c, .bool closed, .float .f32 s, .int .i64 t] w fun x w' => (∃ b cap m, x = .returned (.tuple #[.slice (some ⟨b, 0, none⟩) m cap, .bool true]) ∧ m = 2 ^ t * n ∧ w.heap.size ≤ b ∧ OwnC1 w' b (cutsF xs closed s t)) ∧ Below w.heap.size w w' := by
  have hnb : n ≤ 128 := Nat.le_trans (Nat.le_mul_of_pos_left _ (Nat.two_pow_pos t)) hn128
  have HPL := Lib.hid (fun k (hk : k ≤ t) => cuts_PL (closed := closed) h hs h0 h1 he (by omega) k (by omega) (Nat.le_trans (Nat.mul_le_mul_right _ (Nat.pow_le_pow_right (by decide) hk)) hB))
  have HP0 := Lib.hid h
  have HN := Lib.hid hn
  have HQ := Lib.hid hs
  have HT := Lib.hid hB
  have H128 := Lib.hid hn128
  have HSL := Lib.hid hsl
  have q0 : Q .f32 (can .f32 s) j 4 := by rw [hs.canX]; exact hs
  have hz : Q .f32 (can .f32 0) 0 4 := by rw [show can .f32 0 = 0 by decide +kernel]; exact ⟨by decide +kernel, by decide +kernel, by decide⟩
  have hhf : Q .f32 (can .f32 1056964608) 8 4 := by rw [show can .f32 1056964608 = 1056964608 by decide +kernel]; exact ⟨by decide +kernel, by decide +kernel, by decide⟩
  have o1 : (FloatKind.f32.format.order s 0 == some .gt || FloatKind.f32.format.order s 0 == some .eq) = true := by
    rw [← order_can, Q.order q0 hz]
    rcases Int.lt_or_eq_of_le h0 with h | h
    · have : compare j 0 = .gt := by show compareOfLessAndEq j 0 = .gt; unfold compareOfLessAndEq; rw [if_neg (by omega), if_neg (by omega)]
      rw [this]; rfl
    · have : compare j 0 = .eq := by rw [← h]; rfl
      rw [this]; rfl
  have o2 : (FloatKind.f32.format.order s 1056964608 == some .lt || FloatKind.f32.format.order s 1056964608 == some .eq) = true := by
    rw [← order_can, Q.order q0 hhf]
    rcases Int.lt_or_eq_of_le h1 with h | h
    · have : compare j 8 = .lt := by show compareOfLessAndEq j 8 = .lt; unfold compareOfLessAndEq; rw [if_pos h]
      rw [this]; rfl
    · have : compare j 8 = .eq := by rw [h]; rfl
      rw [this]; rfl
  have t6 : (t : Int) ≤ 6 := by omega
  have t0 : (0 : Int) ≤ (t : Int) := by omega
  have HR := Lib.hid (isRing lo hi ao c n h hn hn2 hnb w hsl)
  clear h hs q0 hz hhf hn hB hn128 hsl
  go_enter Try.func17, Try.ntmps17
  go_wp2_with fail
  refine HR.out.mono ?_
  rintro e1 w1 ⟨rfl, q, rfl⟩
  go_wp2_with fail
  refine (withinB (t : Int) 0 6 _).mono ?_
  rintro e1 w1 ⟨rfl, rfl⟩
  rw [decide_eq_true t0, decide_eq_true t6]
  go_wp2_with fail
  have hsd := HSL.out.far ((Far.refl _ _ _).drewN q)
  have hcl := cloneC lo hi ao c xs (by rw [HN.out]; omega) (by rw [HN.out]; omega) (w.drewN q) hsd htop
  rw [HN.out] at hcl
  have HCL := Lib.hid hcl
  clear hsd hcl
  refine HCL.out.mono ?_
  rintro e2 w2 ⟨⟨b2, cap2, rfl, hb2, ho2⟩, hbl2⟩
  have HO2 := Lib.hid ho2
  have HB2 := Lib.hid (show Below w.heap.size w w2 from (below_dr (Below.refl w.heap.size w) q).trans hbl2)
  have hb2' : w.heap.size ≤ b2 := hb2
  clear HCL ho2 hbl2 hb2
  go_wp2_with fail
  go_loopw [10, 31] (fun o i wr => ∃ (k b cap m : Nat), k ≤ t ∧ Hid (m = 2 ^ k * n) ∧ i = .int .i64 k ∧ o = .slice (some ⟨b, 0, none⟩) m cap ∧ w.heap.size ≤ b ∧ Hid (OwnC1 wr b (cutsF xs closed s k)) ∧ Hid (b < wr.heap.size) ∧ Hid (Below w.heap.size w wr)) (fun _ i _ => t - (intOf i).toNat)
  case atStart => exact ⟨0, b2, cap2, n, by omega, Lib.hid (by rw [Nat.pow_zero, Nat.one_mul]), rfl, rfl, hb2', HO2, Lib.hid HO2.out.1.lt, HB2⟩
  case round =>
    obtain ⟨k, b, cap, m, hk, HM, rfl, rfl, hb, HO, HLT, HB⟩ := hrel
    by_cases hlt : k < t
    · have k1 : (k : Int) < (t : Int) := by omega
      have hp2 : 2 * (2 ^ k * n) ≤ 2 ^ t * n := by
        have e1 : 2 * (2 ^ k * n) = 2 ^ (k + 1) * n := by rw [Nat.pow_succ]; ac_rfl
        rw [e1]
        exact Nat.mul_le_mul_right _ (Nat.pow_le_pow_right (by decide) hlt)
      have hp16 : 16 * (16 ^ k * B) ≤ 65536 := by
        have e1 : 16 * (16 ^ k * B) = 16 ^ (k + 1) * B := by rw [Nat.pow_succ]; ac_rfl
        rw [e1]
        exact Nat.le_trans (Nat.mul_le_mul_right _ (Nat.pow_le_pow_right (by decide) hlt)) HT.out
      have hm1 := HM.out
      have h128 := H128.out
      have hm2 : 2 ≤ m := by
        have := Nat.le_mul_of_pos_left n (Nat.two_pow_pos k)
        omega
      have hm64 : m ≤ 64 := by omega
      have hpl := HPL.out k hk
      have hlen : (cutsF xs closed s k).length = m := by rw [hpl.2, HN.out, hm1]
      have hbz := HLT.out
      have HCC := Lib.hid (cutR b wr.heap.size _ cap s m closed hpl.1 (by omega) hlen hm2 hm64 HQ.out h0 h1 (by omega) wr (HO.out.sl (Nat.le_refl _) hbz) (Nat.le_refl _))
      have hl1 := HPL.out (k + 1) hlt
      have hlen1 : (cutsF xs closed s (k + 1)).length = 2 * m := by rw [hl1.2, HN.out, hm1, Nat.pow_succ]; ac_rfl
      have HPK := Lib.hid hl1.1
      have HLK := Lib.hid hlen1
      have HM2 := Lib.hid (show 2 * m = 2 ^ (k + 1) * n by rw [hm1, Nat.pow_succ]; ac_rfl)
      have hzw := HB.out.size
      clear hp2 hp16 hm1 h128 hpl hlen hl1 hlen1
      go_wp2_with fail
      refine HCC.out.mono ?_
      rintro e3 w3 ⟨⟨b3, cap3, m3, rfl, hm3, hb3, ho3⟩, hbl3⟩
      subst hm3
      have HO3 := Lib.hid (show OwnC1 w3 b3 (cutsF xs closed s (k + 1)) from ho3)
      have HB3 := Lib.hid (HB.out.trans (hbl3.mono hzw))
      have hlt3 := HO3.out.1.lt
      have HIR := Lib.hid (isRing b3 w3.heap.size (some ⟨b3, 0, none⟩) cap3 (2 * m) HPK.out HLK.out (by omega) (by omega) w3 (HO3.out.sl (Nat.le_refl _) hlt3))
      have HLT3 := Lib.hid hlt3
      clear ho3 hbl3 HCC hlt3
      go_wp2_with fail
      refine HIR.out.mono ?_
      rintro e4 w4 ⟨rfl, q4, rfl⟩
      clear HIR
      go_wp2_with fail
      exact ⟨⟨k + 1, b3, cap3, 2 * m, by omega, HM2, by go_num, rfl, by omega, Lib.hid (HO3.out.far ((Far.refl 0 (b3 + 1) _).drewN _) (Nat.zero_le _) (Nat.lt_succ_self _)), HLT3, Lib.hid (below_dr HB3.out _)⟩, by simp [intOf]; omega⟩
    · have k1 : ¬ (k : Int) < (t : Int) := by omega
      have hkt : k = t := by omega
      subst hkt
      go_wp2_with fail
      go_ret2
      exact ⟨⟨b, cap, m, rfl, HM.out, hb, HO.out⟩, HB.out⟩
theorem cutCornersT {xs : List Cx} {ks : List Zp} {e B : Nat} {j : Int} (lo hi : Nat) (ao : Option Addr) (c s n : Nat) (closed : Bool) (h : PL xs ks e B) (hB : 16 * B ≤ 65536) (hn : xs.length = n) (hn2 : 2 ≤ n) (hn128 : 2 * n ≤ 128) (hs : Q .f32 s j 4) (h0 : 0 ≤ j) (h1 : j ≤ 8) (he : e ≤ 60) (w : World) (hsl : SlC w lo hi ao xs) (htop : hi ≤ w.heap.size) :
    Calls Try.prog 16 #[.slice ao n c, .bool closed, .float .f32 s] w fun x w' => (∃ b cap m, x = .returned (.tuple #[.slice (some ⟨b, 0, none⟩) m cap, .bool true]) ∧ m = 2 * n ∧ w.heap.size ≤ b ∧ OwnC1 w' b (cutF xs closed s)) ∧ Below w.heap.size w w' := by
  have H := Lib.hid (cutTimes lo hi ao c s n 1 closed h (by decide) (by omega) hn hn2 (by omega) hs h0 h1 he w hsl htop)
  clear h hn hs hsl
  go_enter Try.func16, Try.ntmps16
  go_wp2_with fail
  refine H.out.mono ?_
  rintro e1 w1 ⟨⟨b, cap, m, rfl, hm, hb, ho⟩, hbl⟩
  have HO := Lib.hid ho
  have HM := Lib.hid hm
  have HB := Lib.hid hbl
  clear H ho hm hbl
  go_wp2_with fail
  go_ret2
  exact ⟨⟨b, cap, m, rfl, by have := HM.out; omega, hb, HO.out⟩, HB.out⟩
end Go.Proofs.Ytkpjhoiaegioeaa

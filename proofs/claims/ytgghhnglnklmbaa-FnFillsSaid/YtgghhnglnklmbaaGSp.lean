/- Where loops cross a height, the program's. (Written by mkgsp.py.) -/
import Derived.Test.YtgghhnglnklmbaaGMg
namespace Go.Fl
open Go.RowKit
/-- how many sides of the first k loops cross a height -/
def crL (y : Int) (kls : List (List Zp)) : Nat → Int
  | 0 => 0
  | k + 1 => crL y kls k + crossesZ y (kAt kls k)
theorem crL_even (y : Int) (kls : List (List Zp)) : ∀ k, crL y kls k % 2 = 0
  | 0 => rfl
  | k + 1 => by
    have h1 := crL_even y kls k
    have h2 := crossesZ_even y (kAt kls k)
    show (crL y kls k + crossesZ y (kAt kls k)) % 2 = 0
    omega
theorem turnB_bound (y : Int) (p q : Zp) : 0 ≤ turnB y p q ∧ turnB y p q ≤ 1 := by
  unfold turnB; split <;> omega
theorem sumT_bound (y : Int) (ps : List Zp) : ∀ k, 0 ≤ sumZ (turnB y) ps k ∧ sumZ (turnB y) ps k ≤ k
  | 0 => by simp [sumZ]
  | k + 1 => by
    have h1 := sumT_bound y ps k
    have h2 := turnB_bound y (zAt ps k) (zAt ps ((k + 1) % ps.length))
    show 0 ≤ sumZ (turnB y) ps k + _ ∧ sumZ (turnB y) ps k + _ ≤ _
    omega
theorem crL_bound {y : Int} {kls : List (List Zp)} (h : ∀ i, i < kls.length → (kAt kls i).length ≤ 6) : ∀ k, k ≤ kls.length → 0 ≤ crL y kls k ∧ crL y kls k ≤ 6 * k
  | 0, _ => by simp [crL]
  | k + 1, hk => by
    have h1 := crL_bound (y := y) h k (by omega)
    have h2 := sumT_bound y (kAt kls k) (kAt kls k).length
    have h3 := h k (by omega)
    show 0 ≤ crL y kls k + crossesZ y (kAt kls k) ∧ crL y kls k + crossesZ y (kAt kls k) ≤ _
    unfold crossesZ
    omega
theorem GRow.of_row {w : World} {T : TypeId} {b cap n : Nat} {xs : List Nat} (h : ORow w T 1 b cap n (xs.map (Value.float .f32))) (hn : n = xs.length) : GRow w b xs :=
  ⟨by have := h.room; rw [Nat.mul_one, hn] at this; exact this, fun i hi => by
    rw [h.cell i (by omega), List.getElem?_map, List.getElem?_eq_getElem hi]
    simp [nA, hi]⟩
theorem GRow.slF {w : World} {b c n : Nat} {xs : List Nat} (h : GRow w b xs) (hn : n = xs.length) (hm : xs.length ≤ 1048576) : SlF w (.slice (some ⟨b, 0, none⟩) n c) xs := by
  subst hn
  exact .inr ⟨b, 0, c, rfl, by omega, fun i hi => by rw [Nat.zero_add]; exact h.2 i hi⟩
theorem fin_n {x : Nat} (h : okN x) : fin (can .f32 x) = true := fin_q h.q
def turnD (a b : Bool) : Int := if (a && !b) || (!a && b) then 1 else 0
theorem turnD_same (a : Bool) : turnD a a = 0 := by cases a <;> rfl
theorem turnD_ne {a b : Bool} (h : ¬ a = b) : turnD a b = 1 := by cases a <;> cases b <;> first | rfl | exact absurd rfl h
theorem turnD_eq (y : Int) (p q : Zp) : turnD (decide (p.2 ≤ y)) (decide (q.2 ≤ y)) = turnB y p q := by
  unfold turnD turnB
  by_cases h1 : p.2 ≤ y <;> by_cases h2 : q.2 ≤ y <;> simp [h1, h2] <;> omega
/-- the place where a side crosses a height is a number -/
theorem cross_num {y p1 p2 q1 q2 a d t e m r : Nat} {ky : Int} {P Q' : Zp} (hy : Q .f32 (can .f32 y) ky 5) (hp : PtQ (p1, p2) P 5) (hq : PtQ (q1, q2) Q' 5) (lp : lowZ P 256) (lq : lowZ Q' 256) (ly : ky.natAbs ≤ 512) (hne : P.2 ≠ Q'.2)
    (ha : F32 a (fsub (can .f32 y) (can .f32 p2))) (hd : F32 d (fsub (can .f32 q2) (can .f32 p2))) (ht : F32 t (fdiv (can .f32 a) (can .f32 d))) (he : F32 e (fsub (can .f32 q1) (can .f32 p1))) (hm : F32 m (fmul (can .f32 t) (can .f32 e))) (hr : F32 r (fadd (can .f32 p1) (can .f32 m))) : okN r := by
  have l1 := lp.1
  have l2 := lp.2
  have l3 := lq.1
  have l4 := lq.2
  have qa : Q .f32 (can .f32 a) (ky - P.2) 5 := by rw [ha]; exact hy.sub hp.2 (lt24 (by omega))
  have qd : Q .f32 (can .f32 d) (Q'.2 - P.2) 5 := by rw [hd]; exact hq.2.sub hp.2 (lt24 (by omega))
  have qe : Q .f32 (can .f32 e) (Q'.1 - P.1) 5 := by rw [he]; exact hq.1.sub hp.1 (lt24 (by omega))
  have mt : Mag (can .f32 t) 14 := by rw [ht]; exact mag_div qa qd (by omega) (by omega)
  have me : Mag (can .f32 e) 4 := Mag.of_q qe (by have : (2 : Nat) ^ (5 + 4) = 512 := (by decide); omega)
  have mm : Mag (can .f32 m) 21 := by rw [hm]; exact mt.mul me (by decide)
  have mp : Mag (can .f32 p1) 21 := Mag.of_q hp.1 (by have : (2 : Nat) ^ (5 + 21) = 67108864 := (by decide); omega)
  have mr : Mag (can .f32 r) 25 := by rw [hr]; exact mp.add mm (by decide)
  exact mr.1
end Go.Fl
namespace Go.Proofs.Ytgghhnglnklmbaa
open Go.RowKit Go.Fl

def Goes (g : Nat) : Prop := ∀ args w, Sem.run Try.prog (callFunc g args) w = .ok (.enter g args) w
set_option maxHeartbeats 1000000 in
theorem indexFunc (p : Nat → Bool) (g : Nat) (hg : Goes g) (hf : ∀ x w, Calls Try.prog g #[.float .f32 x] w fun e w' => e = .returned (.bool (p x)) ∧ ∃ n, w' = w.drewN n)
    (xs : List Nat) (v : Value) (w : World) (hs : SlF w v xs) :
    Calls Try.prog 58 #[v, .func (.func g) #[] #[]] w fun e w' => e = .returned (.int .i64 (idx p xs)) ∧ ∃ n, w' = w.drewN n := by
  have HF := Lib.hid hf
  clear hf
  have hgo : ∀ args w, Sem.run Try.prog (callFunc g args) w = .ok (.enter g args) w := hg
  rcases hs with ⟨rfl, rfl⟩ | ⟨b, off, cap, rfl, hm, hc⟩
  · go_enter Try.func58, Try.ntmps58
    go_wp2_with fail
    refine wp_loop_rounds 1 ?_
    rw [rounds_succ]
    go_wp2_with fail
    go_ret
    exact ⟨rfl, 0, rfl⟩
  go_enter Try.func58, Try.ntmps58
  go_wp2_with fail
  go_loopw [8] (fun i wr => ∃ k q : Nat, k ≤ xs.length ∧ i = .int .i64 k ∧ wr = w.drewN q ∧ (xs.take k).any p = false) (fun i _ => xs.length - (intOf i).toNat)
  case atStart => exact ⟨0, 0, by omega, rfl, rfl, rfl⟩
  case round =>
    obtain ⟨k, q, hk, rfl, rfl, hn⟩ := hrel
    by_cases hlt : k < xs.length
    · have hcell := hc k hlt
      have HN := Lib.hid hn
      clear hn hc
      go_wp2_with fail
      refine (HF.out _ _).mono ?_
      rintro e w' ⟨rfl, n, rfl⟩
      go_wp2_with fail
      · go_ret
        exact ⟨ret_int (idx_some hlt HN.out ‹_›).symm, _, rfl⟩
      · go_roundw
        case rel => exact ⟨k + 1, _, by omega, by go_num, rfl, any_snoc hlt HN.out ‹_›⟩
        case measure => simp [intOf]; omega
    · have HN := Lib.hid hn
      clear hn hc
      go_wp2_with fail
      go_ret
      have e : xs.take k = xs := List.take_of_length_le (by omega)
      exact ⟨ret_int (idx_none (by rw [← e]; exact HN.out)).symm, _, rfl⟩
theorem containsFunc (p : Nat → Bool) (g : Nat) (hg : Goes g) (hf : ∀ x w, Calls Try.prog g #[.float .f32 x] w fun e w' => e = .returned (.bool (p x)) ∧ ∃ n, w' = w.drewN n)
    (xs : List Nat) (v : Value) (w : World) (hs : SlF w v xs) :
    Calls Try.prog 51 #[v, .func (.func g) #[] #[]] w fun e w' => e = .returned (.bool (xs.any p)) ∧ ∃ n, w' = w.drewN n := by
  have HF := Lib.hid hf
  have HS := Lib.hid hs
  clear hf hs
  go_enter Try.func51, Try.ntmps51
  go_wp2_with fail
  refine (indexFunc p g hg HF.out xs v _ HS.out).mono ?_
  rintro e w' ⟨rfl, n, rfl⟩
  go_wp2_with fail
  go_ret
  exact ⟨ret_bool (idx_ge p xs), _, rfl⟩
theorem areFinite1 (x : Nat) (w : World) : Calls Try.prog 52 #[.float .f32 x] w fun e w' => e = .returned (.bool (!fin (can .f32 x))) ∧ ∃ n, w' = w.drewN n := by
  go_enter Try.func52, Try.ntmps52
  go_wp2_with (go_at_call 34; refine (implIsFinite _ _).mono ?_; rintro e w' ⟨rfl, n, rfl⟩)
  all_goals
    go_ret
    exact ⟨rfl, _, rfl⟩
theorem any_not {α : Type} (p : α → Bool) (xs : List α) : (!xs.any fun x => !p x) = xs.all p := by
  induction xs with
  | nil => rfl
  | cons x xs ih => simp only [List.any_cons, List.all_cons, Bool.not_or, Bool.not_not, ih]
theorem areFinite (xs : List Nat) (v : Value) (w : World) (hs : SlF w v xs) :
    Calls Try.prog 35 #[v] w fun e w' => e = .returned (.bool (xs.all fun x => fin (can .f32 x))) ∧ ∃ n, w' = w.drewN n := by
  have HS := Lib.hid hs
  clear hs
  go_enter Try.func35, Try.ntmps35
  go_wp2_with fail
  refine (containsFunc _ _ (fun _ _ => rfl) (fun x w => areFinite1 x w) xs v _ HS.out).mono ?_
  rintro e w' ⟨rfl, n, rfl⟩
  go_wp2_with fail
  go_ret
  exact ⟨ret_bool (any_not _ _), _, rfl⟩

set_option maxHeartbeats 4000000 in
set_option maxRecDepth 100000 in
theorem spansAt (lo hi : Nat) (ao : Option Addr) (c : Nat) (nm : ByteArray) (ls : List (List Cx)) (kls : List (List Zp)) (y : Nat) (ky : Int) (w : World) (h : OL w lo hi ao nm ls kls) (hlow : lowK kls) (hl2 : ls.length ≤ 2) (hy : Q .f32 (can .f32 y) ky 5) (hly : ky.natAbs ≤ 512) :
    Calls Try.prog 16 #[.agg #[.string nm, .slice ao ls.length c], .float .f32 y] w fun e w' => (∃ (b cap n : Nat), e = .returned (.tuple #[.slice (some ⟨b, 0, none⟩) n cap, .bool true]) ∧ n ≤ 12 ∧ n % 2 = 0 ∧ ∃ ys : List Nat, ys.length = n ∧ (∀ x, x ∈ ys → okN x) ∧ SortTo ys n ∧ GRow w' b ys) ∧ Below w.heap.size w w' := by
  have HO := Lib.hid (h.alloc (.cells #[.string nm, .slice ao ls.length c] 26))
  have HB := Lib.hid (show Below w.heap.size w (w.alloc (.cells #[.string nm, .slice ao ls.length c] 26)) from Below.alloc (Below.refl _ _) (Nat.le_refl _) _)
  have HV := Lib.hid (validOutline lo hi ao c nm ls h.short.1 (by omega) h.short.2.2.2 _ HO.out.sl HO.out.top)
  have HOK := Lib.hid (decide_eq_true h.ok)
  have HOC := Lib.hid (show OwnC (w.alloc (.cells #[.string nm, .slice ao ls.length c] 26)) w.heap.size #[.string nm, .slice ao ls.length c] 26 from OwnC.new rfl)
  have HLEN := Lib.hid h.len
  have HLOW := Lib.hid hlow
  have HY := Lib.hid hy
  have HFY := Lib.hid (fin_q hy)
  clear h hlow hy
  go_enter Try.func16, Try.ntmps16
  go_wp2_with fail
  refine HV.out.mono ?_
  rintro e w1 ⟨rfl, hb1⟩
  rw [HOK.out]
  have z1 : w.heap.size < w1.heap.size := by have := hb1.size; simp at this; omega
  have HO1 := Lib.hid (HO.out.below hb1 HO.out.top)
  have HB1 := Lib.hid (HB.out.trans (hb1.mono (by simp)))
  have HOC1 := Lib.hid (HOC.out.below hb1 (by simp))
  clear hb1
  go_wp2_with fail
  refine (implIsFinite y _).mono ?_
  rintro e w2 ⟨rfl, n2, rfl⟩
  rw [HFY.out]
  have HO2 := Lib.hid ((HO1.out.drewN n2).alloc (.cells #[] 38))
  have HB2 := Lib.hid ((below_dr HB1.out n2).alloc (show w.heap.size ≤ (w1.drewN n2).heap.size from HB1.out.size) (.cells #[] 38))
  have HOC2 := Lib.hid ((HOC1.out.drewN n2).alloc (.cells #[] 38))
  have HR2 := Lib.hid (ORow.new (w1.drewN n2) 38 1)
  have c0 := HOC1.out.cell 0
  have c1 := HOC1.out.cell 1
  simp at c0 c1
  go_wp2_with fail
  go_loopw [6, 24] (fun o i wr => ∃ (k b cap : Nat) (xs : List Nat), k ≤ ls.length ∧ i = .int .i64 k ∧ o = .slice (some ⟨b, 0, none⟩) xs.length cap ∧ Hid ((xs.length : Int) = crL ky kls k) ∧ Hid (∀ x, x ∈ xs → okN x) ∧ Hid (ORow wr 38 1 b cap xs.length (xs.map (Value.float .f32))) ∧ w.heap.size < b ∧ hi ≤ b ∧ Hid (OL wr lo hi ao nm ls kls) ∧ Hid (OwnC wr w.heap.size #[.string nm, .slice ao ls.length c] 26) ∧ Hid (Below w.heap.size w wr)) (fun _ i _ => ls.length - (intOf i).toNat)
  case atStart => exact ⟨0, w1.heap.size, 0, [], by omega, rfl, rfl, Lib.hid rfl, Lib.hid (fun x hx => by cases hx), HR2, by omega, HO1.out.top, HO2, HOC2, HB2⟩
  case round =>
    clear c0 c1
    obtain ⟨k, b, cap, xs, hk, rfl, rfl, HXL, HXN, HR, hb, hbh, HOL, HC, HW⟩ := hrel
    have hbd := crL_bound (y := ky) (fun i hi => (HLOW.out i hi).1) k (by rw [HLEN.out]; exact hk)
    rw [← HXL.out] at hbd
    have hx12 : xs.length ≤ 12 := by omega
    by_cases hlt : k < ls.length
    · obtain ⟨bl, rfl, hb1, hb2, hc⟩ := HOL.out.sl (by omega)
      obtain ⟨ai, ci, d1, hs1'⟩ := hc k hlt
      have HSL := Lib.hid hs1'
      have HQK := Lib.hid (HOL.out.q k hlt)
      have HLP := Lib.hid (HOL.out.loop hlt)
      have hkk := HLOW.out k (by rw [HLEN.out]; exact hlt)
      have hlen6 : (lpAt ls k).length ≤ 6 := by rw [← HQK.out.len]; exact hkk.1
      have HKK := Lib.hid hkk.2
      have k0 : (0 : Int) ≤ (k : Int) := by omega
      have k1 : (k : Int) < (ls.length : Int) := by omega
      have hk1' : k ≤ 1 := by omega
      obtain ⟨n, hnn⟩ : ∃ n, n = (lpAt ls k).length := ⟨_, rfl⟩
      rw [← hnn] at d1 hlen6
      have HN := Lib.hid hnn
      have hn3 : 3 ≤ n := by rw [hnn]; exact HLP.out.2.1
      have hx6 : xs.length ≤ 6 * k := by omega
      clear hc hs1' hkk hnn hbd
      go_wp2_with fail
      go_loopw [6, 30] (fun o i wr => ∃ (j b cap : Nat) (xs : List Nat), j ≤ n ∧ i = .int .i64 j ∧ o = .slice (some ⟨b, 0, none⟩) xs.length cap ∧ Hid ((xs.length : Int) = crL ky kls k + sumZ (turnB ky) (kAt kls k) j) ∧ Hid (∀ x, x ∈ xs → okN x) ∧ Hid (ORow wr 38 1 b cap xs.length (xs.map (Value.float .f32))) ∧ w.heap.size < b ∧ hi ≤ b ∧ Hid (OL wr lo hi (some ⟨bl, 0, none⟩) nm ls kls) ∧ Hid (OwnC wr w.heap.size #[.string nm, .slice (some ⟨bl, 0, none⟩) ls.length c] 26) ∧ Hid (Below w.heap.size w wr) ∧ Hid (SlC wr lo hi ai (lpAt ls k))) (fun _ i _ => n - (intOf i).toNat)
      case atStart => exact ⟨0, b, cap, xs, by omega, rfl, rfl, Lib.hid (by rw [HXL.out]; show _ = _ + 0; omega), HXN, HR, hb, hbh, HOL, HC, HW, HSL⟩
      case round =>
        clear HXL HXN HR HOL HC HW HSL hb hbh hx12 hx6
        obtain ⟨j, b, cap, xs, hj, rfl, rfl, HXL, HXN, HR, hb, hbh, HOL, HC, HW, HSL⟩ := hrel
        have hcb := crL_bound (y := ky) (fun i hi => (HLOW.out i hi).1) k (by rw [HLEN.out]; omega)
        have hsb := sumT_bound ky (kAt kls k) j
        have hxb : xs.length ≤ 12 := by have := HXL.out; omega
        clear hcb hsb
        by_cases hjl : j < n
        · obtain ⟨bp, ha, hp1, hp2, hpc⟩ := HSL.out (by rw [← HN.out]; omega)
          obtain ⟨j2, hj2⟩ : ∃ j2, j2 = (j + 1) % n := ⟨_, rfl⟩
          have hjn2 : j2 < n := by rw [hj2]; exact Nat.mod_lt _ (by omega)
          have c1 := hpc j (by rw [← HN.out]; exact hjl)
          have c2 := hpc j2 (by rw [← HN.out]; exact hjn2)
          have P1 := HQK.out.pt j (by rw [← HN.out]; exact hjl)
          have P2 := HQK.out.pt j2 (by rw [← HN.out]; exact hjn2)
          have L1 := HKK.out j (by rw [HQK.out.len, ← HN.out]; exact hjl)
          have L2 := HKK.out j2 (by rw [HQK.out.len, ← HN.out]; exact hjn2)
          rcases hp : cAt (lpAt ls k) j with ⟨p1, p2⟩
          rcases hq : cAt (lpAt ls k) j2 with ⟨q1, q2⟩
          rw [hp] at c1 P1
          rw [hq] at c2 P2
          unfold cV at c1 c2
          have k2 : (j : Int) < (n : Int) := by omega
          have k3 : (0 : Int) ≤ (j : Int) := by omega
          have k4 : (0 : Int) ≤ (j2 : Int) := by omega
          have k5 : (j2 : Int) < (n : Int) := by omega
          have k6 : ((j : Int) + 1) % (n : Int) = (j2 : Int) := by rw [hj2]; rfl
          have k7 : ¬ (n : Int) = 0 := by omega
          have HP1 := Lib.hid P1.1
          have HP2 := Lib.hid P2.1
          have HL1 := Lib.hid L1
          have HL2 := Lib.hid L2
          have HJ := Lib.hid hj2
          clear P1 P2 L1 L2 hp hq hj2 hpc
          obtain ⟨B1, hB1⟩ : ∃ B, B = decide ((zAt (kAt kls k) j).2 ≤ ky) := ⟨_, rfl⟩
          obtain ⟨B2, hB2⟩ : ∃ B, B = decide ((zAt (kAt kls k) j2).2 ≤ ky) := ⟨_, rfl⟩
          have o1 := (ord_le HP1.out.2 HY.out).trans hB1.symm
          have o2 := (ord_le HP2.out.2 HY.out).trans hB2.symm
          have HTU : Hid (∀ d, turnD B1 B2 = d → (xs.length : Int) + d = crL ky kls k + sumZ (turnB ky) (kAt kls k) (j + 1)) := Lib.hid fun d hd => by
            show _ = crL ky kls k + (sumZ (turnB ky) (kAt kls k) j + turnB ky (zAt (kAt kls k) j) (zAt (kAt kls k) ((j + 1) % (kAt kls k).length)))
            rw [HQK.out.len, ← HN.out, ← HJ.out, HXL.out, ← hd, hB1, hB2, turnD_eq, Int.add_assoc]
          by_cases hbb : B1 = B2
          · have HT0 := Lib.hid (HTU.out 0 (by rw [hbb]; exact turnD_same _))
            subst hbb
            clear HTU hB1 hB2
            cases B1
            all_goals
              go_wp2_with fail
              exact ⟨⟨j + 1, b, cap, xs, by omega, by go_num, rfl, Lib.hid (by rw [← HT0.out]; omega), HXN, HR, hb, hbh, HOL, HC, HW, HSL⟩, by simp [intOf]; omega⟩
          · have HT0 := Lib.hid (HTU.out 1 (turnD_ne hbb))
            have hne : (zAt (kAt kls k) j).2 ≠ (zAt (kAt kls k) j2).2 := fun e => hbb (by rw [hB1, hB2, e])
            have HNE := Lib.hid hne
            have hb11 : xs.length < 12 := by
              have hcb := crL_bound (y := ky) (fun i hi => (HLOW.out i hi).1) k (by rw [HLEN.out]; omega)
              have hsb := sumT_bound ky (kAt kls k) (j + 1)
              have := HT0.out
              omega
            have hzw := HW.out.size
            clear HTU hB1 hB2 hne
            have HFIN : Hid (∀ (b6 cap6 : Nat) (w6 : World) (r : Nat), ORow w6 38 1 b6 cap6 (xs.length + 1) (xs.map (Value.float .f32) ++ [.float .f32 r]) → (b6 = b ∨ wr.heap.size < b6) → Grew b wr w6 → okN r → ∃ (xs' : List Nat), xs'.length = xs.length + 1 ∧ Hid ((xs'.length : Int) = crL ky kls k + sumZ (turnB ky) (kAt kls k) (j + 1)) ∧ Hid (∀ x, x ∈ xs' → okN x) ∧ Hid (ORow w6 38 1 b6 cap6 xs'.length (xs'.map (Value.float .f32))) ∧ w.heap.size < b6 ∧ hi ≤ b6 ∧ Hid (OL w6 lo hi (some ⟨bl, 0, none⟩) nm ls kls) ∧ Hid (OwnC w6 w.heap.size #[.string nm, .slice (some ⟨bl, 0, none⟩) ls.length c] 26) ∧ Hid (Below w.heap.size w w6) ∧ Hid (SlC w6 lo hi ai (lpAt ls k))) := Lib.hid fun b6 cap6 w6 r hr6 hb6 hg6 hok => by
              have htop := HOL.out.top
              have e : (xs ++ [r]).length = xs.length + 1 := by simp
              refine ⟨xs ++ [r], e, Lib.hid ?_, Lib.hid (fun q hq => ?_), Lib.hid ?_, by omega, by omega, Lib.hid (HOL.out.far (hg6.far (by omega) (by omega)) hg6.size), Lib.hid (own_grew HC.out hg6 (by omega)), Lib.hid (HW.out.trans (hg6.below (by omega) (by omega))), Lib.hid (HSL.out.far (hg6.far (by omega) (by omega)))⟩
              · rw [e, ← HT0.out]; omega
              · rcases List.mem_append.1 hq with hq | hq
                · exact HXN.out q hq
                · obtain rfl : q = r := by simpa using hq
                  exact hok
              · rw [e, List.map_append]; exact hr6
            cases B1
            · obtain rfl : B2 = true := by cases B2 <;> simp at hbb ⊢
              go_wp2_with (first | (refine wpList_f (x := .tmp 55) rfl rfl rfl rfl (by decide) ?_; intro r58 n58 h58; simp only [Act.put, List.setIfInBounds_toArray, List.set_cons_succ, List.set_cons_zero]) | (refine wpList_f (x := .tmp 60) rfl rfl rfl rfl (by decide) ?_; intro r63 n63 h63; simp only [Act.put, List.setIfInBounds_toArray, List.set_cons_succ, List.set_cons_zero]) | (refine wpList_f (x := .tmp 58) rfl rfl rfl rfl (by decide) ?_; intro r64 n64 h64; simp only [Act.put, List.setIfInBounds_toArray, List.set_cons_succ, List.set_cons_zero]) | (refine wpList_f (x := .tmp 66) rfl rfl rfl rfl (by decide) ?_; intro r69 n69 h69; simp only [Act.put, List.setIfInBounds_toArray, List.set_cons_succ, List.set_cons_zero]) | (refine wpList_f (x := .tmp 64) rfl rfl rfl rfl (by decide) ?_; intro r70 n70 h70; simp only [Act.put, List.setIfInBounds_toArray, List.set_cons_succ, List.set_cons_zero]) | (refine wpList_f (x := .tmp 54) rfl rfl rfl rfl (by decide) ?_; intro r71 n71 h71; simp only [Act.put, List.setIfInBounds_toArray, List.set_cons_succ, List.set_cons_zero]) | (at_builtin; refine wpList_app2 rfl _ _ _ rfl 38 (.float .f32 0) 1 4 Try.underlying33 infoF32 rfl (by decide) (wr.drewN (n58 + n63 + n64 + n69 + n70 + n71)) #[.float .f32 r71] 38 rfl (by simp [Value.oneCell']) wr.heap.size b cap xs.length _ rfl rfl rfl HR.out (by omega) (by decide) ?_; intro b6 cap6 w6 hr6 hbb6 hgr6; have HX6 := Lib.hid (HFIN.out b6 cap6 w6 r71 hr6 hbb6 ⟨hgr6.os, hgr6.tape, hgr6.output, hgr6.size, hgr6.block⟩ (cross_num HY.out HP1.out HP2.out HL1.out HL2.out hly HNE.out h58 h63 h64 h69 h70 h71)); clear hr6 hbb6 hgr6 h58 h63 h64 h69 h70 h71))
              obtain ⟨xs', he, h1, h2, h3, h4, h5, h6, h7, h8, h9⟩ := HX6.out
              exact ⟨⟨_, _, _, _, _, ⟨j + 1, by omega, by go_num, b6, cap6, xs', by rw [he], h1, h2, h3, h4, h5, h6, h7, h8, by rw [← ha]; exact h9⟩, rfl, rfl, rfl, rfl, rfl⟩, by simp [intOf]; omega⟩
            · obtain rfl : B2 = false := by cases B2 <;> simp at hbb ⊢
              go_wp2_with (first | (refine wpList_f (x := .tmp 55) rfl rfl rfl rfl (by decide) ?_; intro r58 n58 h58; simp only [Act.put, List.setIfInBounds_toArray, List.set_cons_succ, List.set_cons_zero]) | (refine wpList_f (x := .tmp 60) rfl rfl rfl rfl (by decide) ?_; intro r63 n63 h63; simp only [Act.put, List.setIfInBounds_toArray, List.set_cons_succ, List.set_cons_zero]) | (refine wpList_f (x := .tmp 58) rfl rfl rfl rfl (by decide) ?_; intro r64 n64 h64; simp only [Act.put, List.setIfInBounds_toArray, List.set_cons_succ, List.set_cons_zero]) | (refine wpList_f (x := .tmp 66) rfl rfl rfl rfl (by decide) ?_; intro r69 n69 h69; simp only [Act.put, List.setIfInBounds_toArray, List.set_cons_succ, List.set_cons_zero]) | (refine wpList_f (x := .tmp 64) rfl rfl rfl rfl (by decide) ?_; intro r70 n70 h70; simp only [Act.put, List.setIfInBounds_toArray, List.set_cons_succ, List.set_cons_zero]) | (refine wpList_f (x := .tmp 54) rfl rfl rfl rfl (by decide) ?_; intro r71 n71 h71; simp only [Act.put, List.setIfInBounds_toArray, List.set_cons_succ, List.set_cons_zero]) | (at_builtin; refine wpList_app2 rfl _ _ _ rfl 38 (.float .f32 0) 1 4 Try.underlying33 infoF32 rfl (by decide) (wr.drewN (n58 + n63 + n64 + n69 + n70 + n71)) #[.float .f32 r71] 38 rfl (by simp [Value.oneCell']) wr.heap.size b cap xs.length _ rfl rfl rfl HR.out (by omega) (by decide) ?_; intro b6 cap6 w6 hr6 hbb6 hgr6; have HX6 := Lib.hid (HFIN.out b6 cap6 w6 r71 hr6 hbb6 ⟨hgr6.os, hgr6.tape, hgr6.output, hgr6.size, hgr6.block⟩ (cross_num HY.out HP1.out HP2.out HL1.out HL2.out hly HNE.out h58 h63 h64 h69 h70 h71)); clear hr6 hbb6 hgr6 h58 h63 h64 h69 h70 h71))
              obtain ⟨xs', he, h1, h2, h3, h4, h5, h6, h7, h8, h9⟩ := HX6.out
              exact ⟨⟨_, _, _, _, _, ⟨j + 1, by omega, by go_num, b6, cap6, xs', by rw [he], h1, h2, h3, h4, h5, h6, h7, h8, by rw [← ha]; exact h9⟩, rfl, rfl, rfl, rfl, rfl⟩, by simp [intOf]; omega⟩
        · have hjn : j = n := by omega
          have k3 : ¬ (j : Int) < (n : Int) := by omega
          have HJN := Lib.hid hjn
          clear hjn
          go_wp2_with fail
          exact ⟨⟨k + 1, b, cap, xs, by omega, by go_num, rfl, Lib.hid (by
            show _ = crL ky kls k + crossesZ ky (kAt kls k)
            rw [HXL.out, HJN.out, HN.out, ← HQK.out.len]; rfl), HXN, HR, hb, hbh, HOL, HC, HW⟩, by simp [intOf]; omega⟩
    · have hkn : k = ls.length := by omega
      have k1 : ¬ (k : Int) < (ls.length : Int) := by omega
      have HEV := Lib.hid (show xs.length % 2 = 0 by have h1 := crL_even ky kls k; rw [← HXL.out] at h1; omega)
      have HG := Lib.hid (GRow.of_row HR.out rfl)
      have HAF := Lib.hid (areFinite xs (.slice (some ⟨b, 0, none⟩) xs.length cap) _ (HG.out.slF rfl (by omega)))
      have HALL := Lib.hid (show (xs.all fun x => fin (can .f32 x)) = true from List.all_eq_true.2 fun x hx => fin_n (HXN.out x hx))
      obtain ⟨N, hN⟩ : ∃ N, N = xs.length := ⟨_, rfl⟩
      rw [← hN] at HAF HEV hx12 HR ⊢
      have HNX := Lib.hid hN
      have hzw := HW.out.size
      clear hkn hbd hN
      go_wp2_with fail
      refine HAF.out.mono ?_
      rintro e w3 ⟨rfl, n3, rfl⟩
      rw [HALL.out]
      have HSO := Lib.hid (sortStable b cap xs N HNX.out.symm (by omega) HXN.out (wr.drewN n3) (HG.out.far ((Far.refl _ _ _).drewN n3)))
      go_wp2_with fail
      refine HSO.out.mono ?_
      rintro e w4 ⟨rfl, ⟨ys, h1, h2, h3, h4⟩, h5⟩
      have H1 := Lib.hid h1
      have H2 := Lib.hid h2
      have H3 := Lib.hid h3
      have H4 := Lib.hid h4
      have HB4 := Lib.hid (Below.trans (below_dr HW.out n3) (h5.below fun c hc => by omega))
      clear h1 h2 h3 h4 h5
      go_wp2_with fail
      go_ret2
      exact ⟨⟨b, cap, N, rfl, hx12, HEV.out, ys, H1.out, H2.out, H3.out, H4.out⟩, HB4.out⟩
end Go.Proofs.Ytgghhnglnklmbaa

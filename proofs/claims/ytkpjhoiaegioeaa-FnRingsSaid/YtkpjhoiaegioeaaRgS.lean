/- Rings: lines, masks; the law's r8Gap. -/
import Derived.Test.YtkpjhoiaegioeaaRgQ
import Derived.Laws.Cover3
namespace Go.Fl
open Ieee Go.RowKit
theorem ringL_at {v m : Nat → Zp} {closed : Bool} {n j : Nat} (hn : 0 < n) (hj : j < (ringL v m closed n).length) : (∃ i, i < n ∧ zAt (ringL v m closed n) j = v i) ∨ ∃ i, i < n ∧ (closed = true ∨ i + 1 < n) ∧ zAt (ringL v m closed n) j = m i := by
  rw [ringL_len _ _ _ _ hn] at hj
  obtain ⟨i, rfl | rfl⟩ := even_odd j
  · exact .inl ⟨i, by split at hj <;> omega, zAt_of (ringL_even v m closed n i (by split at hj <;> omega))⟩
  · have hi : i < n := by split at hj <;> omega
    have hc : closed = true ∨ i + 1 < n := by
      cases closed
      · right; simp at hj; omega
      · left; rfl
    exact .inr ⟨i, hi, hc, zAt_of (ringL_odd v m closed n i hi hc)⟩
theorem pairL_at {v m : Nat → Zp} {n j : Nat} (hj : j < 2 * n) : ∃ i, i < n ∧ (zAt (pairL v m n) j = v i ∨ zAt (pairL v m n) j = m i) := by
  obtain ⟨i, rfl | rfl⟩ := even_odd j
  · exact ⟨i, by omega, .inl (zAt_of (pairL_get v m n i (by omega)).1)⟩
  · exact ⟨i, by omega, .inr (zAt_of (pairL_get v m n i (by omega)).2)⟩
theorem cutA_at {z0 zl : Zp} {v m : Nat → Zp} {closed : Bool} {n j : Nat} (hn : 0 < n) (hj : j < (cutA z0 v m zl closed n).length) : zAt (cutA z0 v m zl closed n) j = z0 ∨ zAt (cutA z0 v m zl closed n) j = zl ∨ ∃ i, i < n ∧ (zAt (cutA z0 v m zl closed n) j = v i ∨ zAt (cutA z0 v m zl closed n) j = m i) := by
  rw [cutA_len _ _ _ _ _ _ hn] at hj
  cases closed
  · show zAt (z0 :: (pairL v m (n - 1) ++ [zl])) j = z0 ∨ zAt (z0 :: (pairL v m (n - 1) ++ [zl])) j = zl ∨ ∃ i, i < n ∧ (zAt (z0 :: (pairL v m (n - 1) ++ [zl])) j = v i ∨ zAt (z0 :: (pairL v m (n - 1) ++ [zl])) j = m i)
    cases j with
    | zero => exact .inl rfl
    | succ j =>
      right
      by_cases hjl : j < 2 * (n - 1)
      · right
        obtain ⟨i, hi, h⟩ := pairL_at (v := v) (m := m) hjl
        have e : zAt (z0 :: (pairL v m (n - 1) ++ [zl])) (j + 1) = zAt (pairL v m (n - 1)) j := by
          unfold zAt
          rw [List.getD_eq_getElem?_getD, List.getD_eq_getElem?_getD, List.getElem?_cons_succ, List.getElem?_append_left (by rw [pairL_len]; exact hjl)]
        exact ⟨i, by omega, by rw [e]; exact h⟩
      · left
        have hj2 : j = 2 * (n - 1) := by omega
        have e1 : (z0 :: (pairL v m (n - 1) ++ [zl]))[j + 1]? = some zl := by rw [List.getElem?_cons_succ, List.getElem?_append_right (by rw [pairL_len]; omega), pairL_len, hj2, Nat.sub_self]; rfl
        exact zAt_of e1
  · obtain ⟨i, hi, h⟩ := pairL_at (v := v) (m := m) (n := n) hj
    exact .inr (.inr ⟨i, hi, h⟩)
/-- on the line of slope one half through c -/
def onL (c z : Zp) : Prop := 2 * (z.2 - c.2) = z.1 - c.1
def PLin (ks : List Zp) (c : Zp) : Prop := ∀ j, j < ks.length → onL c (zAt ks j)
theorem onL.mul {c z : Zp} (h : onL c z) (j : Int) : onL (mulZ c j) (mulZ z j) := by
  unfold onL at h ⊢
  show 2 * (z.2 * j - c.2 * j) = z.1 * j - c.1 * j
  rw [← Int.sub_mul, ← Int.sub_mul, ← Int.mul_assoc, h]
theorem onL.mix {c a b : Zp} (ha : onL c a) (hb : onL c b) (j : Int) : onL (mulZ c 16) (addZ (mulZ a 16) (mulZ (subZ b a) j)) ∧ onL (mulZ c 16) (subZ (mulZ b 16) (mulZ (subZ b a) j)) := by
  unfold onL at *
  have e : (b.1 - a.1) * j = 2 * ((b.2 - a.2) * j) := by rw [← Int.mul_assoc]; congr 1; omega
  constructor
  · show 2 * (a.2 * 16 + (b.2 - a.2) * j - c.2 * 16) = a.1 * 16 + (b.1 - a.1) * j - c.1 * 16; omega
  · show 2 * (b.2 * 16 - (b.2 - a.2) * j - c.2 * 16) = b.1 * 16 - (b.1 - a.1) * j - c.1 * 16; omega
theorem cut_lin {ks : List Zp} {c : Zp} {closed : Bool} {j : Int} (hn : 0 < ks.length) (h : PLin ks c) : PLin (cutZ ks closed j) (mulZ c 16) := fun i hi => by
  unfold cutZ at hi ⊢
  rcases cutA_at hn hi with e | e | ⟨q, hq, e | e⟩ <;> rw [e]
  · exact (h 0 hn).mul 16
  · exact (h _ (by omega)).mul 16
  · exact ((h q hq).mix (h _ (nx_lt hq)) j).1
  · exact ((h q hq).mix (h _ (nx_lt hq)) j).2
theorem cutZ_len (ks : List Zp) (closed : Bool) (j : Int) (hn : 0 < ks.length) : (cutZ ks closed j).length = 2 * ks.length := cutA_len _ _ _ _ _ _ hn
theorem cub_lin {ks : List Zp} {c : Zp} {closed : Bool} {sh : Option Nat} (hn : 0 < ks.length) (h : PLin ks c) : PLin (cubZ ks closed sh) (mulZ c 8) := fun i hi => by
  unfold cubZ at hi ⊢
  rcases ringL_at hn hi with ⟨q, hq, e⟩ | ⟨q, hq, _, e⟩ <;> rw [e]
  · unfold cubVZ
    split
    · have a := h q hq; have b := h _ (pv_lt hq); have d := h _ (nx_lt hq)
      unfold onL at *
      show 2 * (_ * 6 + (_ + _) * 1 - c.2 * 8) = _ * 6 + (_ + _) * 1 - c.1 * 8
      omega
    · exact (h q hq).mul 8
  · have a := h q hq; have d := h _ (nx_lt hq)
    unfold cubMZ
    unfold onL at *
    show 2 * ((_ + _) * 4 - c.2 * 8) = (_ + _) * 4 - c.1 * 8
    omega
/-- the points of a line -/
def lineS (i : Nat) : Cx := (floatOfInt .f32 (i : Int), fop .quo .f32 (floatOfInt .f32 (i : Int)) 1073741824)
def lineF (xs : List Cx) (i : Nat) : Cx := plusF (cAt xs 0) (lineS i)
def lineL (xs : List Cx) (n : Nat) : List Cx := (List.range n).map (lineF xs)
def lineZ (k0 : Zp) (n : Nat) : List Zp := (List.range n).map fun (i : Nat) => addZ k0 (4 * (i : Int), 2 * (i : Int))
theorem two_read : FloatKind.f32.format.read 1073741824 = .number false (2 ^ FB .f32) (((1 : Nat) : Int) - FB .f32) := by decide
theorem lineS_px {i : Nat} (hi : i ≤ 16) : PX (lineS i) (4 * (i : Int), 2 * (i : Int)) 2 := by
  have q1 := Q.ofInt .f32 (i : Int) (lt24 (by omega))
  have q2 := (Q.half (e := 0) q1 two_read (lt24 (by omega)) (by decide)).shift 1 (by decide)
  have q3 := q1.shift 2 (by decide)
  have e1 : (i : Int) * 2 ^ 1 = 2 * (i : Int) := by omega
  have e2 : (i : Int) * 2 ^ 2 = 4 * (i : Int) := by omega
  rw [e1] at q2
  rw [e2] at q3
  exact ⟨q3, q2⟩
theorem lineL_succ (xs : List Cx) (n : Nat) : lineL xs (n + 1) = lineL xs n ++ [lineF xs n] := by simp [lineL, List.range_succ]
theorem lineL_len (xs : List Cx) (n : Nat) : (lineL xs n).length = n := by simp [lineL]
theorem line_PL {xs : List Cx} {k0 : Zp} {n : Nat} (h : PX (cAt xs 0) k0 2) (hl : low k0 16) (hn : n ≤ 7) : PL (lineL xs n) (lineZ k0 n) 2 44 ∧ PLin (lineZ k0 n) k0 := by
  refine ⟨⟨by simp [lineL, lineZ], fun i hi => ?_⟩, fun i hi => ?_⟩
  · rw [lineL_len] at hi
    have e1 : cAt (lineL xs n) i = lineF xs i := cAt_of (by simp [lineL, hi])
    have e2 : zAt (lineZ k0 n) i = addZ k0 (4 * (i : Int), 2 * (i : Int)) := zAt_of (by simp [lineZ, hi])
    rw [e1, e2]
    have a := hl.1; have b := hl.2
    refine ⟨h.plus (lineS_px (by omega)) (hl.mono (by decide)) ⟨by show (4 * (i : Int)).natAbs ≤ _; omega, by show (2 * (i : Int)).natAbs ≤ _; omega⟩, ?_, ?_⟩
    · show (k0.1 + 4 * (i : Int)).natAbs ≤ 44; omega
    · show (k0.2 + 2 * (i : Int)).natAbs ≤ 44; omega
  · have hi2 : i < n := by simpa [lineZ] using hi
    have e2 : zAt (lineZ k0 n) i = addZ k0 (4 * (i : Int), 2 * (i : Int)) := zAt_of (by simp [lineZ, hi2])
    rw [e2]
    unfold onL
    show 2 * (k0.2 + 2 * (i : Int) - k0.2) = k0.1 + 4 * (i : Int) - k0.1
    omega
theorem two_read64 : FloatKind.f64.format.read 4611686018427387904 = .number false (2 ^ FB .f64) (((1 : Nat) : Int) - FB .f64) := by decide
/-- on the line, the imaginary part is half the real one -/
theorem half_same {z : Cx} {d : Zp} {e : Nat} (h : PX z d e) (hl : low d 65536) (he : e ≤ 60) (hd : 2 * d.2 = d.1) :
    isN .f64 (fcv .f32 .f64 z.2) = true ∧ isN .f64 (fop .quo .f64 (fcv .f32 .f64 z.1) 4611686018427387904) = true ∧ V .f64 (fcv .f32 .f64 z.2) = V .f64 (fop .quo .f64 (fcv .f32 .f64 z.1) 4611686018427387904) := by
  have b53 : (2 : Nat) ^ (FB .f64 + 1) = 9007199254740992 := by decide
  have w1 := h.1.widen (by have := hl.1; omega)
  have w2 := h.2.widen (by have := hl.2; omega)
  have l : LP .f64 = 1074 := rfl
  have q := Q.half w1 two_read64 (by rw [b53]; have := hl.1; omega) (by rw [l]; omega)
  have s := w2.shift 1 (by rw [l]; omega)
  refine ⟨w2.num, q.num, ?_⟩
  rw [s.val, q.val]
  congr 1
  omega
theorem neg_V {K : FloatKind} {x y : Nat} (hx : isN K x = true) (hy : isN K y = true) (h : V K x = V K y) : isN K (fop .sub K x y) = true ∧ V K (fop .sub K x y) = 0 := by
  have h3 : V K x - V K y = 0 := by omega
  have h1 := near_sub hx hy (by rw [h3]; exact Nat.zero_le _)
  rw [h3] at h1
  have a := h1.le 0 0 (Nat.two_pow_pos _) (by simp)
  have b := h1.ge 0 0 (Nat.two_pow_pos _) (by simp)
  rw [Int.zero_mul] at a b
  exact ⟨h1.num, by omega⟩
/-- the masks of the law -/
theorem mask1 : GoodMask [1065353216] (fun _ => 8) := ⟨.inl rfl, fun k hk => by
    have : k = 0 := by have : [1065353216].length = 1 := rfl
                       omega
    subst this
    exact ⟨⟨by decide +kernel, by decide +kernel, by decide⟩, by decide⟩, by decide +kernel, by decide +kernel⟩
def z044 (k : Nat) : Int := if k = 0 then 0 else 4
def z161 (k : Nat) : Int := if k = 1 then 6 else 1
theorem mask055 : GoodMask [0, 1056964608, 1056964608] z044 := ⟨.inr rfl, fun k hk => by
    have h3 : [0, 1056964608, 1056964608].length = 3 := rfl
    have : k = 0 ∨ k = 1 ∨ k = 2 := by omega
    rcases this with rfl | rfl | rfl
    · exact ⟨⟨by decide +kernel, by decide +kernel, by decide⟩, by decide⟩
    · exact ⟨⟨by decide +kernel, by decide +kernel, by decide⟩, by decide⟩
    · exact ⟨⟨by decide +kernel, by decide +kernel, by decide⟩, by decide⟩, by decide +kernel, by decide +kernel⟩
theorem mask161 : GoodMask [1040187392, 1061158912, 1040187392] z161 := ⟨.inr rfl, fun k hk => by
    have h3 : [1040187392, 1061158912, 1040187392].length = 3 := rfl
    have : k = 0 ∨ k = 1 ∨ k = 2 := by omega
    rcases this with rfl | rfl | rfl
    · exact ⟨⟨by decide +kernel, by decide +kernel, by decide⟩, by decide⟩
    · exact ⟨⟨by decide +kernel, by decide +kernel, by decide⟩, by decide⟩
    · exact ⟨⟨by decide +kernel, by decide +kernel, by decide⟩, by decide⟩, by decide +kernel, by decide +kernel⟩
def M055 : List Nat := [0, 1056964608, 1056964608]
def M161 : List Nat := [1040187392, 1061158912, 1040187392]
/-- halves are what rounding gives -/
theorem halves_same {xs : List Cx} {ks : List Zp} {n : Nat} (h : PL xs ks 2 16) (hn : xs.length = n) (hn2 : 2 ≤ n) {j : Nat} (hj : j < 2 * n) :
    PX (minusF (cAt (pairL (mkF xs M161) (mkF xs M055) n) j) (cAt (cubF xs true none) j)) (0, 0) 2 := by
  have hkl : ks.length = n := by rw [h.len, hn]
  have p1 := mk_PL h (by decide) (by decide) mask161 mask055 (by omega)
  have p2 := cub_PL (closed := true) (sh := none) h (by decide) (by decide) (by omega)
  rw [hn] at p1
  have l1 : (pairL (mkF xs M161) (mkF xs M055) n).length = 2 * n := pairL_len _ _ _
  have l2 : (cubF xs true none).length = 2 * n := by rw [cubF_len _ _ _ (by omega), hn]; rfl
  have a := (p1.pt j (by show j < (pairL _ _ n).length; rw [pairL_len]; exact hj)).1
  have b := (p2.pt j (by rw [l2]; exact hj)).1
  have key : ∀ {f : Nat → Int} {i : Nat}, i < n → mkZ ks 3 f i = addZ (addZ (addZ (0, 0) (mulZ (zAt ks (pv n i)) (f 0))) (mulZ (zAt ks i) (f 1))) (mulZ (zAt ks (nx n i)) (f 2)) := fun {f i} hi => by
    unfold mkZ maskZ maskZ maskZ maskZ moI
    rw [hkl]
    rfl
  have hz : zAt (pairL (mkZ ks 3 z161) (mkZ ks 3 z044) n) j = zAt (cubZ ks true none) j := by
    obtain ⟨i, rfl | rfl⟩ := even_odd j
    · have hi : i < n := by omega
      rw [zAt_of (pairL_get _ _ n i hi).1, cubZ_v none (by rw [hkl]; exact hi), cubVZ_both (.inl rfl), key hi, hkl]
      apply zext
      · show 0 + _ * 1 + _ * 6 + _ * 1 = _ * 6 + (_ + _) * 1; omega
      · show 0 + _ * 1 + _ * 6 + _ * 1 = _ * 6 + (_ + _) * 1; omega
    · have hi : i < n := by omega
      rw [zAt_of (pairL_get _ _ n i hi).2, cubZ_m none (by rw [hkl]; exact hi) (.inl rfl), key hi]
      unfold cubMZ
      rw [hkl]
      apply zext
      · show 0 + _ * 0 + _ * 4 + _ * 4 = (_ + _) * 4; omega
      · show 0 + _ * 0 + _ * 4 + _ * 4 = (_ + _) * 4; omega
  have a' : PX (cAt (pairL (mkF xs M161) (mkF xs M055) n) j) (zAt (cubZ ks true none) j) 5 := by rw [← hz]; exact a
  exact minus_same ⟨a'.1.num, a'.2.num⟩ ⟨b.1.num, b.2.num⟩ (by rw [a'.1.val, b.1.val]) (by rw [a'.2.val, b.2.val])
/-- a mask of one changes nothing -/
theorem mask_one {xs : List Cx} {ks : List Zp} {n i : Nat} {mo : List Nat} (h : PL xs ks 2 16) (hn : xs.length = n) (hi : i < n) :
    (FloatKind.f32.format.order (cAt (pairL (mkF xs [1065353216]) (mkF xs mo) n) (2 * i)).1 (cAt xs i).1 == some .eq) = true ∧ (FloatKind.f32.format.order (cAt (pairL (mkF xs [1065353216]) (mkF xs mo) n) (2 * i)).2 (cAt xs i).2 == some .eq) = true := by
  have hkl : ks.length = n := by rw [h.len, hn]
  rw [cAt_of (pairL_get _ _ n i hi).1]
  obtain ⟨p, _⟩ := mask_px h (by decide) (by decide) mask1 (show i < xs.length by omega) 1 (Nat.le_refl _)
  obtain ⟨q, _⟩ := h.pt i (by omega)
  have s := q.shift 3 (by decide)
  have hm : moI ks.length 1 i 0 = i := by unfold moI; rw [if_pos rfl]
  have hz : maskZ ks [1065353216].length (fun _ => 8) i 1 = mulZ (zAt ks i) (2 ^ 3) := by
    show addZ (0, 0) (mulZ (zAt ks (moI ks.length 1 i 0)) 8) = _
    rw [hm]
    apply zext
    · show 0 + _ * 8 = _ * 8; omega
    · show 0 + _ * 8 = _ * 8; omega
  rw [hz] at p
  have key : ∀ {a b : Nat} {k : Int}, Q .f32 a k (2 + 3) → Q .f32 b k (2 + 3) → (FloatKind.f32.format.order a b == some .eq) = true := fun {a b k} ha hb => by
    rw [ha.order hb]
    have : compare k k = .eq := Int.compare_eq_eq.2 rfl
    rw [this]; rfl
  exact ⟨key p.1 s.1, key p.2 s.2⟩
end Go.Fl
namespace Go.Proofs.Ytkpjhoiaegioeaa
open Go.RowKit Go.Fl
theorem cuts_lin {ks : List Zp} {c : Zp} {closed : Bool} {j : Int} (hn : 0 < ks.length) (h : PLin ks c) : PLin (cutsZ ks closed j 2) (mulZ (mulZ c 16) 16) :=
  cut_lin (ks := cutZ ks closed j) (by rw [cutZ_len _ _ _ hn]; omega) (cut_lin hn h)
theorem some_of_N {op : BinOp} {x y : Nat} (h : isN .f32 (fop op .f32 x y) = true) : floatBits op .f32 x y = some (fop op .f32 x y) := by
  unfold fop at h ⊢
  cases hb : floatBits op .f32 x y with
  | some r => rfl
  | none => rw [hb] at h; exfalso; revert h; decide +kernel
theorem subC_run {a b : Cx} {p : Zp} {e : Nat} (h : PX (minusF a b) p e) (w : World) : Sem.run Try.prog (binOp BinOp.sub 26 (cV a) (cV b)) w = .ok (cV (minusF a b)) w :=
  run_complex_sum (P := Try.prog) w .sub (Or.inr rfl) 26 .f32 a.1 a.2 b.1 b.2 (minusF a b).1 (minusF a b).2 (by unfold cSumBits; rw [some_of_N (op := .sub) (x := a.1) (y := b.1) h.1.num, some_of_N (op := .sub) (x := a.2) (y := b.2) h.2.num]; rfl)
theorem addC_run {a b : Cx} {p : Zp} {e : Nat} (h : PX (plusF a b) p e) (w : World) : Sem.run Try.prog (binOp BinOp.add 26 (cV a) (cV b)) w = .ok (cV (plusF a b)) w :=
  run_complex_sum (P := Try.prog) w .add (Or.inl rfl) 26 .f32 a.1 a.2 b.1 b.2 (plusF a b).1 (plusF a b).2 (by unfold cSumBits; rw [some_of_N (op := .add) (x := a.1) (y := b.1) h.1.num, some_of_N (op := .add) (x := a.2) (y := b.2) h.2.num]; rfl)
theorem r8GapR {a b : Nat} (ha : isN .f64 a = true) (hb : isN .f64 b = true) (h : V .f64 a = V .f64 b) (w : World) : Calls Try.prog 26 #[.float .f64 a, .float .f64 b] w fun x w' => (∃ r, x = .returned (.float .f64 r) ∧ isN .f64 r = true ∧ V .f64 r = 0) ∧ w' = w := by
  obtain ⟨n1, v1⟩ := neg_V ha hb h
  obtain ⟨n2, v2⟩ := neg_V hb ha h.symm
  obtain ⟨m1, d1⟩ := run_fopN n1
  obtain ⟨m2, d2⟩ := run_fopN n2
  have dz : ∀ w : World, w.drewN 0 = w := World.drewN_zero
  have hm := fun (ts : Array TypeId) (t : TypeId) (w : World) => run_maxF (P := Try.prog) n1 n2 ts t w
  have hf := maxF_facts n1 n2
  have HF := Lib.hid (show isN .f64 (maxF .f64 (fop .sub .f64 a b) (fop .sub .f64 b a)) = true ∧ V .f64 (maxF .f64 (fop .sub .f64 a b) (fop .sub .f64 b a)) = 0 from ⟨hf.1, by rcases hf.2.2.2 with e | e <;> omega⟩)
  clear ha hb h n1 v1 n2 v2 hf
  go_enter Try.func26, Try.ntmps26
  go_wp2_with fail
  go_ret
  exact ⟨⟨_, rfl, HF.out⟩, rfl⟩
end Go.Proofs.Ytkpjhoiaegioeaa

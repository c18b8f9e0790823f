/- All that the law tells of its plans. Plain Lean. -/
import Derived.Test.YtfpkdnopbnppmaaPnO
namespace Go.Fl
open Ieee Go.RowKit Go.Proofs.Ytfpkdnopbnppmaa
theorem nat_bd {a b n : Nat} (h1 : a ≤ n) (h2 : n ≤ b) : (((a : Nat) : Int) : Rat) ≤ (((n : Nat) : Int) : Rat) ∧ (((n : Nat) : Int) : Rat) ≤ (((b : Nat) : Int) : Rat) := ⟨cast_le h1, cast_le h2⟩
theorem half_in {m : Nat} (h1 : 1 ≤ m) (h2 : m ≤ 8) : isN .f32 (hW m) = true ∧ 1 / 2 ≤ R .f32 (hW m) ∧ R .f32 (hW m) ≤ 4 := by
  obtain ⟨n, e⟩ := hW_R (m := m) (by omega)
  obtain ⟨a, b⟩ := nat_bd h1 h2
  have e1 : (((1 : Nat) : Int) : Rat) = 1 := rfl
  have e8 : (((8 : Nat) : Int) : Rat) = 8 := rfl
  rw [e1] at a
  rw [e8] at b
  rw [e]
  exact ⟨n, by grind, by grind⟩
theorem quarter_in {m : Nat} (h1 : 1 ≤ m) (h2 : m ≤ 32) : isN .f32 (qW m) = true ∧ 1 / 4 ≤ R .f32 (qW m) ∧ R .f32 (qW m) ≤ 8 ∧ (m ≤ 16 → R .f32 (qW m) ≤ 4) := by
  obtain ⟨n, e⟩ := qW_R (m := m) (by omega)
  obtain ⟨a, b⟩ := nat_bd h1 h2
  have e1 : (((1 : Nat) : Int) : Rat) = 1 := rfl
  have e8 : (((32 : Nat) : Int) : Rat) = 32 := rfl
  rw [e1] at a
  rw [e8] at b
  rw [e]
  refine ⟨n, by grind, by grind, fun h => ?_⟩
  have c := cast_le h
  have e16 : (((16 : Nat) : Int) : Rat) = 16 := rfl
  rw [e16] at c
  grind
def okL (ls : List Nat) : Prop := ∀ k, k < ls.length → ∃ q, 1 ≤ q ∧ q ≤ 16 ∧ nF ls k = qW q
theorem sp_in {ls : List Nat} {n m b : Nat} (hl : ls.length = n) (n2 : 2 ≤ n) (n7 : n ≤ 7) (ho : okL ls) (m1 : 1 ≤ m) (m8 : m ≤ 8) (b1 : 1 ≤ b) (b8 : b ≤ 8) : SpIn ls (hW m) (hW b) n := by
  obtain ⟨x1, x2, x3⟩ := half_in m1 m8
  obtain ⟨y1, y2, y3⟩ := half_in b1 b8
  refine ⟨hl, n2, n7, fun k hk => ?_, x1, x2, x3, y1, y2, y3⟩
  obtain ⟨q, q1, q2, e⟩ := ho k (by omega)
  obtain ⟨z1, z2, z3, z4⟩ := quarter_in q1 (show q ≤ 32 by omega)
  rw [e]
  exact ⟨z1, z2, z4 q2⟩
def holdB (m b k : Nat) : Bool := !decide (b * b ≤ m * k) || (isN .f32 (fsub (fdiv (hW m) (hW b)) (fdiv (hW b) (hW k))) && fle 0 (fsub (fdiv (hW m) (hW b)) (fdiv (hW b) (hW k))))
theorem hold_all : ((List.range 8).all fun m => (List.range 8).all fun b => (List.range 8).all fun k => holdB (m + 1) (b + 1) (k + 1)) = true := by decide +kernel
theorem hold_ok {m b k : Nat} (m1 : 1 ≤ m) (m8 : m ≤ 8) (b1 : 1 ≤ b) (b8 : b ≤ 8) (k1 : 1 ≤ k) (k8 : k ≤ 8) (h : b * b ≤ m * k) : 0 ≤ R .f32 (fsub (fdiv (hW m) (hW b)) (fdiv (hW b) (hW k))) := by
  have a := List.all_eq_true.1 (List.all_eq_true.1 (List.all_eq_true.1 hold_all (m - 1) (List.mem_range.2 (by omega))) (b - 1) (List.mem_range.2 (by omega))) (k - 1) (List.mem_range.2 (by omega))
  rw [Nat.sub_add_cancel m1, Nat.sub_add_cancel b1, Nat.sub_add_cancel k1] at a
  unfold holdB at a
  rw [decide_eq_true h] at a
  simp only [Bool.not_true, Bool.false_or, Bool.and_eq_true] at a
  rw [fle_R zero_N.1 a.1, R_zero] at a
  exact of_decide_eq_true a.2
theorem j_in {l m b k : Nat} (l1 : 1 ≤ l) (l8 : l ≤ 32) (m1 : 1 ≤ m) (m8 : m ≤ 8) (b1 : 1 ≤ b) (b8 : b ≤ 8) (k1 : 1 ≤ k) (k8 : k ≤ 8) : JIn (qW l) (hW m) (hW b) (hW k) := by
  obtain ⟨x1, x2, x3⟩ := half_in m1 m8
  obtain ⟨y1, y2, y3⟩ := half_in b1 b8
  obtain ⟨z1, z2, z3⟩ := half_in k1 k8
  obtain ⟨u1, u2, u3, _⟩ := quarter_in l1 l8
  have qb := hW_q (m := b) (by omega)
  have em := (hW_R (m := m) (by omega)).2
  have eb := (hW_R (m := b) (by omega)).2
  have ek := (hW_R (m := k) (by omega)).2
  have hbb : b * b ≤ 64 := Nat.mul_le_mul b8 b8
  have sq := qb.mul qb (lt24 (by rw [Int.natAbs_mul]; simp; omega)) (by decide)
  have cast2 : ∀ x y : Nat, (((x * y : Nat) : Int) : Rat) = (((x : Nat) : Int) : Rat) * (((y : Nat) : Int) : Rat) := fun x y => by rw [Int.natCast_mul, Rat.intCast_mul]
  have hiff : R .f32 (hW b) * R .f32 (hW b) ≤ R .f32 (hW m) * R .f32 (hW k) → b * b ≤ m * k := fun h => by
    rw [eb, em, ek] at h
    have : (((b * b : Nat) : Int) : Rat) ≤ (((m * k : Nat) : Int) : Rat) := by rw [cast2, cast2]; grind
    exact Int.ofNat_le.1 (Rat.intCast_le_intCast.1 this)
  refine ⟨u1, x1, y1, z1, u2, u3, x2, x3, y2, y3, z2, z3, ⟨sq.num, ?_⟩, ?_, fun h => hold_ok m1 m8 b1 b8 k1 k8 (hiff h)⟩
  · show R .f32 (fop .mul .f32 (hW b) (hW b)) = _
    rw [sq.R, eb, Rat.intCast_mul]
    have : (((2 ^ (1 + 1) : Nat) : Int) : Rat) = 4 := rfl
    rw [this]
    grind
  · rcases Nat.lt_or_ge (m * k) (b * b) with h | h
    · right
      have := cast_le (show m * k + 1 ≤ b * b by omega)
      rw [Int.natCast_add, Rat.intCast_add, cast2, cast2] at this
      have e1 : (((1 : Nat) : Int) : Rat) = 1 := rfl
      rw [e1] at this
      rw [eb, em, ek]; grind
    · left
      have := cast_le h
      rw [cast2, cast2] at this
      rw [eb, em, ek]; grind
/-- the way after k twelfths of the time; before it -/
def wayK (j r h c t k : Nat) : Nat := (pwTo j r h c (tickF t k) 7).1
def wayB (j r h c t : Nat) : Nat → Nat | 0 => 0 | k + 1 => wayK j r h c t k
theorem way_facts {lw mw rw jw r h c : Nat} (H : JIn lw mw rw jw) (g : GoodPlan lw mw rw jw r h c) {tw : Nat} (nt : isN .f32 tw = true) (t0 : 0 ≤ R .f32 tw) (t9 : R .f32 tw ≤ 64) : isN .f32 (pwTo jw r h c tw 7).1 = true ∧ -(1 / 100) ≤ R .f32 (pwTo jw r h c tw 7).1 ∧ R .f32 (pwTo jw r h c tw 7).1 ≤ 9 ∧ -(456 * ee * pfW (R .f32 jw) (R .f32 r) (R .f32 h) (R .f32 c)) ≤ R .f32 (pwTo jw r h c tw 7).1 := by
  obtain ⟨nx, m, s, hm, s0, s1, ⟨x1, x2⟩, _, _⟩ := way_at g.pw nt t0 t9
  obtain ⟨l0, l1⟩ := pf_in g.pw.pin hm s0 s1
  have W9 := g.pw.pin.X9
  have Wl := g.long.2
  have l9 := H.l9
  have p := Rat.mul_nonneg (a := 1 / 2000 - 456 * ee) (b := pfW (R .f32 jw) (R .f32 r) (R .f32 h) (R .f32 c)) (by rw [ee_eq]; grind) (by grind)
  exact ⟨nx, by grind, by grind, by grind⟩
theorem way_steps {lw mw rw jw r h c : Nat} (H : JIn lw mw rw jw) (g : GoodPlan lw mw rw jw r h c) {k : Nat} (hk : k ≤ 12) :
    isN .f32 (wayK jw r h c (planTime r h c) k) = true ∧ StepTest lw (wayK jw r h c (planTime r h c) k) (wayB jw r h c (planTime r h c) k) := by
  obtain ⟨nt, _, t0, t9⟩ := total_ok g.pw
  obtain ⟨_, k1, k2, k3, _⟩ := tick_ok nt t0 t9 hk
  obtain ⟨nx, x1, x2, x3⟩ := way_facts H g k1 k2 (by grind)
  have W9 := g.pw.pin.X9
  obtain ⟨W1, W2⟩ := g.long
  have l0 := H.l0
  have l9 := H.l9
  have W0 := g.pw.pin.X0
  have e1 := Rat.mul_nonneg (a := 1 / 2299 - 912 * ee) (b := pfW (R .f32 jw) (R .f32 r) (R .f32 h) (R .f32 c)) (by rw [ee_eq]; grind) (by grind)
  have d0 : 70 * dT ≤ 1 / 1872 := by rw [dT_eq]; grind
  refine ⟨nx, ?_⟩
  cases k with
  | zero =>
    refine step_test H.nl l0 l9 nx zero_N.1 ?_ ?_ ?_ ?_ ?_
    · show -20 ≤ R .f32 (pwTo jw r h c _ 7).1; grind
    · show R .f32 (pwTo jw r h c _ 7).1 ≤ 20; grind
    · show -20 ≤ R .f32 0; rw [R_zero]; grind
    · show R .f32 0 ≤ 20; rw [R_zero]; grind
    · show R .f32 0 ≤ R .f32 (pwTo jw r h c _ 7).1 + _
      rw [R_zero]; grind
  | succ k =>
    obtain ⟨_, i1, i2, i3, _⟩ := tick_ok nt t0 t9 (show k ≤ 12 by omega)
    obtain ⟨ny, y1, y2, _⟩ := way_facts H g i1 i2 (by grind)
    have hm := way_mono g.pw i1 i2 k1 (tick_mono nt t0 t9 hk) (by grind)
    refine step_test H.nl l0 l9 nx ny ?_ ?_ ?_ ?_ ?_
    · show -20 ≤ R .f32 (pwTo jw r h c _ 7).1; grind
    · show R .f32 (pwTo jw r h c _ 7).1 ≤ 20; grind
    · show -20 ≤ R .f32 (pwTo jw r h c _ 7).1; grind
    · show R .f32 (pwTo jw r h c _ 7).1 ≤ 20; grind
    · show R .f32 (pwTo jw r h c _ 7).1 ≤ R .f32 (pwTo jw r h c _ 7).1 + _; grind
/-- the time that is late -/
def lateF (t : Nat) : Nat := fop .add .f32 t 1084227584
theorem late_ok {t : Nat} (nt : isN .f32 t = true) (t0 : 1 / 30 ≤ R .f32 t) (t9 : R .f32 t ≤ 51) : isN .f32 (lateF t) = true ∧ R .f32 t ≤ R .f32 (lateF t) ∧ R .f32 (lateF t) ≤ 60 := by
  have m : Rnd .f32 (lateF t) _ := rnd_add nt five_N.1 (by rw [five_N.2]; grind) (by rw [five_N.2]; grind)
  rw [five_N.2] at m
  have f := m.n32 6 (by decide) (B := 64) rfl (by grind) (by grind)
  exact ⟨m.num, by grind, by grind⟩
theorem way_ends {lw mw rw jw r h c : Nat} (H : JIn lw mw rw jw) (g : GoodPlan lw mw rw jw r h c) :
    isN .f32 (pwTo jw r h c (lateF (planTime r h c)) 7).1 = true ∧ EndTest lw (wayK jw r h c (planTime r h c) 12) lw ∧ EndTest lw (pwTo jw r h c (lateF (planTime r h c)) 7).1 (wayK jw r h c (planTime r h c) 12) := by
  obtain ⟨nt, ⟨tt1, tt2⟩, t0, t9⟩ := total_ok g.pw
  obtain ⟨_, k1, k2, k3, k4⟩ := tick_ok nt t0 t9 (Nat.le_refl 12)
  have e12 : (((12 : Nat) : Int) : Rat) = 12 := rfl
  rw [e12] at k4
  obtain ⟨k4, k5⟩ := k4
  obtain ⟨n1, n2, n3⟩ := late_ok nt t0 t9
  obtain ⟨nx, x1, x2, _⟩ := way_facts H g k1 k2 (by grind)
  obtain ⟨ny, y1, y2, _⟩ := way_facts H g n1 (by grind) (by grind)
  obtain ⟨a1, a2⟩ := way_end g.pw k1 k2 (by grind) (d := 1 / 5000) (by grind) (by grind)
  obtain ⟨b1, b2⟩ := way_end g.pw n1 (by grind) (by grind) (d := 1 / 5000) (by grind) (by grind)
  obtain ⟨W1, W2⟩ := g.long
  have l0 := H.l0
  have l9 := H.l9
  have W0 := g.pw.pin.X0
  have e1 := Rat.mul_nonneg (a := 1 / 4000 - 456 * ee) (b := pfW (R .f32 jw) (R .f32 r) (R .f32 h) (R .f32 c)) (by rw [ee_eq]; grind) (by grind)
  have d0 : 7 * dT ≤ 1 / 18000 := by rw [dT_eq]; grind
  have ex : wayK jw r h c (planTime r h c) 12 = (pwTo jw r h c (tickF (planTime r h c) 12) 7).1 := rfl
  rw [ex]
  exact ⟨ny, end_test H.nl l0 l9 nx H.nl (by grind) (by grind) (by grind) (by grind) (by grind) (by grind), end_test H.nl l0 l9 ny nx (by grind) (by grind) (by grind) (by grind) (by grind) (by grind)⟩
end Go.Fl

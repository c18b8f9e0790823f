/- Arcs: the absolute value, the sine, the phasor and the angle walked. Arcs: the phasor walked, the program's and the reference's. Arcs: the angle walked. -/
import Derived.Test.YtkbikfifnaihlaaArJa
import Derived.Laws.BitsAllLaws
import Derived.Deep.QuietTactic
import Derived.BigQuiet
namespace Go.Fl
open Ieee Go.RowKit
theorem andNot63 (b : Nat) : bits .andNot .u64 (b : Int) 9223372036854775808 = ((absB b : Nat) : Int) := by
  show IntKind.u64.wrap ((BitVec.ofInt 64 (b : Int) &&& ~~~BitVec.ofInt 64 9223372036854775808).toNat : Int) = _
  have e1 : (BitVec.ofInt 64 (b : Int)).toNat = b % 2 ^ 64 := by rw [BitVec.ofInt_natCast, BitVec.toNat_ofNat]
  have e2 : (~~~BitVec.ofInt 64 9223372036854775808).toNat = 2 ^ 63 - 1 := by decide
  rw [BitVec.toNat_and, e1, e2, Nat.and_two_pow_sub_one_eq_mod, IntKind.wrap_u64]
  unfold absB
  have : b % 2 ^ 64 % 2 ^ 63 = b % 9223372036854775808 := by omega
  rw [this]
  omega
theorem ord_lt0 {K : FloatKind} {x z : Nat} (hx : isN K x = true) (hz : isN K z = true) : (K.format.order x z == some .lt) = decide (R K x < R K z) := by
  have h := (show K.format.order x z = some (compare (V K x) (V K z)) from (Q.order (⟨hx, by rw [Nat.sub_self]; simp, Nat.le_refl _⟩ : Q K x (V K x) (LP K)) (⟨hz, by rw [Nat.sub_self]; simp, Nat.le_refl _⟩ : Q K z (V K z) (LP K))))
  rw [h]
  cases h : compare (V K x) (V K z)
  · rw [Int.compare_eq_lt] at h; simp [R_lt, h]
  · rw [Int.compare_eq_eq] at h; simp [R_lt, h]
  · rw [Int.compare_eq_gt] at h; simp [R_lt]; omega
theorem ord_gt0 {K : FloatKind} {x z : Nat} (hx : isN K x = true) (hz : isN K z = true) : (K.format.order x z == some .gt) = decide (R K z < R K x) := by
  have h := (show K.format.order x z = some (compare (V K x) (V K z)) from (Q.order (⟨hx, by rw [Nat.sub_self]; simp, Nat.le_refl _⟩ : Q K x (V K x) (LP K)) (⟨hz, by rw [Nat.sub_self]; simp, Nat.le_refl _⟩ : Q K z (V K z) (LP K))))
  rw [h]
  cases h : compare (V K x) (V K z)
  · rw [Int.compare_eq_lt] at h; simp [R_lt]; omega
  · rw [Int.compare_eq_eq] at h; simp [R_lt, h]
  · rw [Int.compare_eq_gt] at h; simp [R_lt, h]
theorem ord_eq0 {K : FloatKind} {x z : Nat} (hx : isN K x = true) (hz : isN K z = true) : (K.format.order x z == some .eq) = decide (R K x = R K z) := by
  have h := (show K.format.order x z = some (compare (V K x) (V K z)) from (Q.order (⟨hx, by rw [Nat.sub_self]; simp, Nat.le_refl _⟩ : Q K x (V K x) (LP K)) (⟨hz, by rw [Nat.sub_self]; simp, Nat.le_refl _⟩ : Q K z (V K z) (LP K))))
  rw [h]
  cases h : compare (V K x) (V K z)
  · rw [Int.compare_eq_lt] at h; simp [R_eq]; omega
  · rw [Int.compare_eq_eq] at h; simp [R_eq, h]
  · rw [Int.compare_eq_gt] at h; simp [R_eq]; omega
/-- x ≥ z, as the walk spells it -/
theorem ord_ge0 {K : FloatKind} {x z : Nat} (hx : isN K x = true) (hz : isN K z = true) : (K.format.order x z == some .gt || K.format.order x z == some .eq) = !decide (R K x < R K z) := by
  rw [ord_gt0 hx hz, ord_eq0 hx hz]
  by_cases h : R K x < R K z
  · have a : ¬ R K z < R K x := by grind
    have b : ¬ R K x = R K z := by grind
    simp [h, a, b]
  · by_cases b : R K x = R K z
    · simp [h, b]
    · have a : R K z < R K x := by grind
      simp [h, a]
/-- x ≤ z, as the walk spells it -/
theorem ord_le0 {K : FloatKind} {x z : Nat} (hx : isN K x = true) (hz : isN K z = true) : (K.format.order x z == some .lt || K.format.order x z == some .eq) = !decide (R K z < R K x) := by
  rw [ord_lt0 hx hz, ord_eq0 hx hz]
  by_cases h : R K z < R K x
  · have a : ¬ R K x < R K z := by grind
    have b : ¬ R K x = R K z := by grind
    simp [h, a, b]
  · by_cases b : R K x = R K z
    · simp [h, b]
    · have a : R K x < R K z := by grind
      simp [h, a]
/-- a float counter's number, as a measure -/
def kMeas (v : Value) : Nat := match v with | .float _ b => (V .f64 b / 2 ^ 1074).toNat | _ => 0
theorem kS_tab : (List.range 9).all (fun i => decide (kMeas (.float .f64 (kSB i)) = 8 - i) && isN .f64 (kSB i) && isN .f64 (fop .mul .f64 twoB (kSB i)) && isN .f64 (fop .add .f64 (fop .mul .f64 twoB (kSB i)) oneB) && isN .f64 (denI i) && isN .f64 (fop .sub .f64 (kSB i) oneB) && ((FloatKind.f64.format.order (kSB i) oneB == some .gt || FloatKind.f64.format.order (kSB i) oneB == some .eq) == decide (i < 8))) = true := by decide +kernel
structure KS (i : Nat) : Prop where
  me : kMeas (.float .f64 (kSB i)) = 8 - i
  k : isN .f64 (kSB i) = true
  a : isN .f64 (fop .mul .f64 twoB (kSB i)) = true
  b : isN .f64 (fop .add .f64 (fop .mul .f64 twoB (kSB i)) oneB) = true
  d : isN .f64 (denI i) = true
  n : isN .f64 (fop .sub .f64 (kSB i) oneB) = true
  o : (FloatKind.f64.format.order (kSB i) oneB == some .gt || FloatKind.f64.format.order (kSB i) oneB == some .eq) = decide (i < 8)
theorem kS_at {i : Nat} (h : i ≤ 8) : KS i := by
  have := List.all_eq_true.1 kS_tab i (List.mem_range.2 (by omega))
  simp only [Bool.and_eq_true, decide_eq_true_eq, beq_iff_eq] at this
  obtain ⟨⟨⟨⟨⟨⟨a, b⟩, c⟩, d⟩, e⟩, f⟩, g⟩ := this
  exact ⟨a, b, c, d, e, f, g⟩
theorem kA_tab : (List.range 9).all (fun i => decide (kMeas (.float .f64 (kAB i)) = 15 - 2 * i) && isN .f64 (kAB i) && isN .f64 (fop .sub .f64 (kAB i) twoB) && ((FloatKind.f64.format.order (kAB i) oneB == some .gt || FloatKind.f64.format.order (kAB i) oneB == some .eq) == decide (i < 8))) = true := by decide +kernel
structure KA (i : Nat) : Prop where
  me : kMeas (.float .f64 (kAB i)) = 15 - 2 * i
  k : isN .f64 (kAB i) = true
  n : isN .f64 (fop .sub .f64 (kAB i) twoB) = true
  o : (FloatKind.f64.format.order (kAB i) oneB == some .gt || FloatKind.f64.format.order (kAB i) oneB == some .eq) = decide (i < 8)
theorem kA_at {i : Nat} (h : i ≤ 8) : KA i := by
  have := List.all_eq_true.1 kA_tab i (List.mem_range.2 (by omega))
  simp only [Bool.and_eq_true, decide_eq_true_eq, beq_iff_eq] at this
  obtain ⟨⟨⟨a, b⟩, c⟩, d⟩ := this
  exact ⟨a, b, c, d⟩
theorem half_R : R .f64 halfB = 1 / 2 := by have := half_In; exact Rat.le_antisymm this.2.2 this.2.1
end Go.Fl
namespace Go.Proofs.Ytkbikfifnaihlaa
open Go.RowKit Go.Fl

theorem run_b64 (b : Nat) (w : World) : (callFunc 69 #[.float .f64 b]).run Try.prog w = .ok (.value (.int .u64 b)) w := by
  rw [run_callFunc_extern (P := Try.prog) (e := Extern.MathFloatBits.float64bits) Try.func69 (by kernel_rfl) (by kernel_rfl) (by kernel_rfl) (by kernel_rfl) #[.float .f64 b] w]
  rfl
theorem run_f64 (n : Int) (w : World) : (callFunc 68 #[.int .u64 n]).run Try.prog w = .ok (.value (.float .f64 n.toNat)) w := by
  rw [run_callFunc_extern (P := Try.prog) (e := Extern.MathFloatBits.float64frombits) Try.func68 (by kernel_rfl) (by kernel_rfl) (by kernel_rfl) (by kernel_rfl) #[.int .u64 n] w]
  rfl
theorem absW (x : Nat) (w : World) : Calls Try.prog 57 #[.float .f64 x] w fun e w' => e = .returned (.float .f64 (absB x)) ∧ w' = w := by
  have h1 := run_b64 x
  have h2 := run_f64 ((absB x : Nat) : Int)
  have h3 := andNot63 x
  go_enter Try.func57, Try.ntmps57
  go_wp2_with fail
  go_ret
  exact ⟨by first | rfl | simp, rfl⟩
theorem fractionW {x : Nat} (h : FracN x) (w : World) : Calls Try.prog 58 #[.float .f64 x] w fun e w' => e = .returned (.float .f64 (fracF x)) ∧ w' = w := by
  have hci := fun w => run_convert_float_int (P := Try.prog) (w := w) 30 2 .f64 .i64 x (fracN x) (by kernel_rfl) (by kernel_rfl) h.n
  obtain ⟨m1, d1⟩ := run_fopN (op := .sub) (x := x) (y := floatOfInt .f64 (fracN x)) h.s
  have ol := ord_lt0 h.s zero64_N.1
  rw [zero64_N.2] at ol
  have dz : ∀ w : World, w.drewN 0 = w := World.drewN_zero
  have HF := Lib.hid (show fracF x = if R .f64 (frac0 x) < 0 then fop .add .f64 (frac0 x) oneB else frac0 x from rfl)
  have ha := h.a
  unfold frac0 at ol ha HF
  obtain ⟨n, hn⟩ : ∃ n, n = fracN x := ⟨_, rfl⟩
  rw [← hn] at hci m1 d1 ol ha HF
  by_cases c : R .f64 (fop .sub .f64 x (floatOfInt .f64 n)) < 0
  · obtain ⟨m2, d2⟩ := run_fopN (op := .add) (ha c)
    rw [decide_eq_true c] at ol
    have hF := HF.out
    rw [if_pos c] at hF
    rw [hF]
    unfold oneB at m2 d2 ⊢
    clear h ha hn HF c hF
    go_enter Try.func58, Try.ntmps58
    go_wp2_with fail
    go_ret
    exact ⟨rfl, rfl⟩
  · rw [decide_eq_false c] at ol
    have hF := HF.out
    rw [if_neg c] at hF
    rw [hF]
    clear h ha hn HF c hF
    go_enter Try.func58, Try.ntmps58
    go_wp2_with fail
    go_ret
    exact ⟨rfl, rfl⟩
set_option maxHeartbeats 2000000 in
set_option maxRecDepth 100000 in
theorem sineW {x : Nat} (h : FracN x) (h0 : 0 ≤ R .f64 (fracF x)) (h1 : R .f64 (fracF x) ≤ 1 / 4) (hs : SineN denI (fracF x)) (w : World) : Calls Try.prog 59 #[.float .f64 x] w fun e w' => e = .returned (.float .f64 (sineX denI x)) ∧ w' = w := by
  have HFR := Lib.hid (fun w => fractionW h w)
  have og := ord_ge0 h.f half_In.1
  have oq := ord_gt0 h.f quar_In.1
  rw [half_R, show decide (R .f64 (fracF x) < 1 / 2) = true from decide_eq_true (by grind)] at og
  rw [quar_R, show decide (1 / 4 < R .f64 (fracF x)) = false from decide_eq_false (by grind)] at oq
  have og : (FloatKind.f64.format.order (fracF x) halfB == some .gt || FloatKind.f64.format.order (fracF x) halfB == some .eq) = false := og
  unfold sineX sineF
  obtain ⟨f, hf⟩ : ∃ f, f = fracF x := ⟨_, rfl⟩
  rw [← hf] at HFR og oq hs ⊢
  obtain ⟨m1, d1⟩ := run_fopN (op := .mul) (x := f) (y := fullB) hs.z
  obtain ⟨m2, d2⟩ := run_fopN (op := .mul) hs.u
  have hr := hs.r
  unfold sineF at hr
  obtain ⟨z, hz⟩ : ∃ z, z = sinZ f := ⟨_, rfl⟩
  have hz2 : fop .mul .f64 f fullB = z := by rw [hz]; rfl
  rw [← hz] at hr m2 d2 ⊢
  rw [hz2] at m1
  obtain ⟨u, hu⟩ : ∃ u, u = fop .mul .f64 z z := ⟨_, rfl⟩
  rw [← hu] at hr m2 ⊢
  have HST := Lib.hid (show ∀ i, i < 8 → StepS denI u i by rw [hu, hz]; exact hs.st)
  obtain ⟨m3, d3⟩ := run_fopN (op := .mul) hr
  have dz : ∀ w : World, w.drewN 0 = w := World.drewN_zero
  have HZ := Lib.hid hz2
  unfold fullB at m1 d1
  unfold halfB at og
  unfold quarB at oq
  clear h h0 h1 hs hf hz hz2 hu hr
  go_enter Try.func59, Try.ntmps59
  go_wp2_with fail
  refine (HFR.out _).mono ?_
  rintro e w1 ⟨rfl, rfl⟩
  go_wp2_with fail
  go_loop [7, 8] (fun pv kv => ∃ i : Nat, i ≤ 8 ∧ kv = .float .f64 (kSB i) ∧ pv = .float .f64 (hornS denI u i)) (fun _ kv => kMeas kv)
  case atStart => exact ⟨0, by omega, rfl, rfl⟩
  case round =>
    obtain ⟨i, hi, rfl, rfl⟩ := hrel
    have hk := kS_at hi
    have ok := hk.o
    by_cases hlt : i < 8
    · rw [decide_eq_true hlt] at ok
      have st := HST.out i hlt
      have HM := Lib.hid (show kMeas (.float .f64 (kSB (i + 1))) < kMeas (.float .f64 (kSB i)) by rw [hk.me, (kS_at (show i + 1 ≤ 8 by omega)).me]; omega)
      obtain ⟨a1, b1⟩ := run_fopN (op := .mul) st.m
      obtain ⟨a2, b2⟩ := run_fopN (op := .mul) hk.a
      obtain ⟨a3, b3⟩ := run_fopN (op := .add) hk.b
      obtain ⟨a4, b4⟩ := run_fopN (op := .mul) (x := fop .mul .f64 twoB (kSB i)) (y := fop .add .f64 (fop .mul .f64 twoB (kSB i)) oneB) hk.d
      obtain ⟨a5, b5⟩ := run_fopN (op := .quo) (x := fop .mul .f64 u (hornS denI u i)) (y := fop .mul .f64 (fop .mul .f64 twoB (kSB i)) (fop .add .f64 (fop .mul .f64 twoB (kSB i)) oneB)) st.q
      obtain ⟨a6, b6⟩ := run_fopN (op := .sub) (x := oneB) (y := fop .quo .f64 (fop .mul .f64 u (hornS denI u i)) (fop .mul .f64 (fop .mul .f64 twoB (kSB i)) (fop .add .f64 (fop .mul .f64 twoB (kSB i)) oneB))) st.p
      obtain ⟨a7, b7⟩ := run_fopN (op := .sub) hk.n
      have HP := Lib.hid (show hornS denI u (i + 1) = fop .sub .f64 oneB (fop .quo .f64 (fop .mul .f64 u (hornS denI u i)) (fop .mul .f64 (fop .mul .f64 twoB (kSB i)) (fop .add .f64 (fop .mul .f64 twoB (kSB i)) oneB))) from rfl)
      have HK := Lib.hid (show kSB (i + 1) = fop .sub .f64 (kSB i) oneB from rfl)
      obtain ⟨k, hkk⟩ : ∃ k, k = kSB i := ⟨_, rfl⟩
      obtain ⟨p, hpp⟩ : ∃ p, p = hornS denI u i := ⟨_, rfl⟩
      rw [← hkk] at ok a2 a3 a4 a5 a6 a7 b2 b3 b4 b5 b6 b7 HP HK HM ⊢
      rw [← hpp] at a1 a5 a6 b1 b5 b6 HP ⊢
      unfold oneB at ok a3 a4 a5 a6 a7 b3 b4 b5 b6 b7 HP HK
      unfold twoB at a2 a3 a4 a5 a6 b2 b3 b4 b5 b6 HP
      clear hk st hkk hpp
      go_wp2_with fail
      go_round
      case rel => exact ⟨i + 1, by omega, by rw [HK.out], by rw [HP.out]⟩
      case measure => rw [HK.out] at HM; exact HM.out
    · rw [decide_eq_false hlt] at ok
      have hi8 : i = 8 := by omega
      subst hi8
      obtain ⟨k, hkk⟩ : ∃ k, k = kSB 8 := ⟨_, rfl⟩
      obtain ⟨p, hpp⟩ : ∃ p, p = hornS denI u 8 := ⟨_, rfl⟩
      rw [← hkk] at ok ⊢
      rw [← hpp] at m3 d3 ⊢
      unfold oneB at ok
      have HPP := Lib.hid hpp
      clear hk hkk hpp hlt
      go_wp2_with fail
      go_ret
      exact ⟨by rw [← HPP.out]; rfl, rfl⟩
set_option maxHeartbeats 2000000 in
set_option maxRecDepth 100000 in
theorem sineS {x : Nat} (hx : isN .f64 x = true) (x0 : 0 ≤ R .f64 x) (x1 : R .f64 x ≤ 1 / 4) (h : FracN x) (h0 : 0 ≤ R .f64 (fracF x)) (h1 : R .f64 (fracF x) ≤ 1 / 4) (hs : SineN denS (fracF x)) (w : World) : Calls Try.prog 44 #[.float .f64 x] w fun e w' => e = .returned (.float .f64 (sineX denS x)) ∧ w' = w := by
  have hci := fun w => run_convert_float_int (P := Try.prog) (w := w) 30 2 .f64 .i64 x (fracN x) (by kernel_rfl) (by kernel_rfl) h.n
  have hxx := rnd_sub hx hx (by grind) (by grind)
  have hx0 : R .f64 (fop .sub .f64 x x) = 0 := by
    have a := hxx.le 0 zero64_N.1 (by rw [zero64_N.2]; grind)
    have b := hxx.ge 0 zero64_N.1 (by rw [zero64_N.2]; grind)
    rw [zero64_N.2] at a b
    grind
  obtain ⟨m8, d8⟩ := run_fopN hxx.num
  have oe := ord_eq0 hxx.num zero64_N.1
  rw [zero64_N.2, decide_eq_true hx0] at oe
  have on : (FloatKind.f64.format.order (fop .sub .f64 x x) 0 != some .eq) = false := by unfold bne; rw [oe]; rfl
  have b52 : isN .f64 4841369599423283200 = true ∧ (1 : Rat) ≤ R .f64 4841369599423283200 := by
    have q : Q .f64 4841369599423283200 4503599627370496 0 := ⟨by decide +kernel, by decide +kernel, by decide⟩
    exact ⟨q.num, by rw [q.R]; decide +kernel⟩
  have n52 : isN .f64 14064741636278059008 = true ∧ R .f64 14064741636278059008 ≤ -1 := by
    have q : Q .f64 14064741636278059008 (-4503599627370496) 0 := ⟨by decide +kernel, by decide +kernel, by decide⟩
    exact ⟨q.num, by rw [q.R]; decide +kernel⟩
  have g1 := ord_ge0 hx b52.1
  rw [show decide (R .f64 x < R .f64 4841369599423283200) = true from decide_eq_true (by have := b52.2; grind)] at g1
  have g1 : (FloatKind.f64.format.order x 4841369599423283200 == some .gt || FloatKind.f64.format.order x 4841369599423283200 == some .eq) = false := g1
  have g2 := ord_le0 hx n52.1
  rw [show decide (R .f64 14064741636278059008 < R .f64 x) = true from decide_eq_true (by have := n52.2; grind)] at g2
  have g2 : (FloatKind.f64.format.order x 14064741636278059008 == some .lt || FloatKind.f64.format.order x 14064741636278059008 == some .eq) = false := g2
  have og := ord_ge0 h.f half_In.1
  have oq := ord_gt0 h.f quar_In.1
  rw [half_R, show decide (R .f64 (fracF x) < 1 / 2) = true from decide_eq_true (by grind)] at og
  rw [quar_R, show decide (1 / 4 < R .f64 (fracF x)) = false from decide_eq_false (by grind)] at oq
  have og : (FloatKind.f64.format.order (fracF x) halfB == some .gt || FloatKind.f64.format.order (fracF x) halfB == some .eq) = false := og
  obtain ⟨n1, d1⟩ := run_fopN (op := .sub) (x := x) (y := floatOfInt .f64 (fracN x)) h.s
  have ol := ord_lt0 h.s zero64_N.1
  rw [zero64_N.2] at ol
  have ha := h.a
  have HF := Lib.hid (show fracF x = if R .f64 (frac0 x) < 0 then fop .add .f64 (frac0 x) oneB else frac0 x from rfl)
  unfold frac0 at ol ha HF
  obtain ⟨n, hn⟩ : ∃ n, n = fracN x := ⟨_, rfl⟩
  rw [← hn] at hci n1 d1 ol ha HF
  unfold sineX sineF
  have HFE : Hid (fracF x = fracF x) := Lib.hid rfl
  obtain ⟨f, hf⟩ : ∃ f, f = fracF x := ⟨_, rfl⟩
  rw [← hf] at og oq hs HF ⊢
  obtain ⟨m1, e1⟩ := run_fopN (op := .mul) (x := f) (y := fullB) hs.z
  obtain ⟨m2, e2⟩ := run_fopN (op := .mul) hs.u
  have hr := hs.r
  unfold sineF at hr
  obtain ⟨z, hz⟩ : ∃ z, z = sinZ f := ⟨_, rfl⟩
  have hz2 : fop .mul .f64 f fullB = z := by rw [hz]; rfl
  rw [← hz] at hr m2 e2 ⊢
  rw [hz2] at m1
  obtain ⟨u, hu⟩ : ∃ u, u = fop .mul .f64 z z := ⟨_, rfl⟩
  rw [← hu] at hr m2 ⊢
  have HST := Lib.hid (show ∀ i, i < 8 → StepS denS u i by rw [hu, hz]; exact hs.st)
  obtain ⟨m3, e3⟩ := run_fopN (op := .mul) hr
  have dz : ∀ w : World, w.drewN 0 = w := World.drewN_zero
  unfold fullB at m1 e1
  unfold halfB at og
  unfold quarB at oq
  -- the loop, once for both ways
  have HL : Hid (∀ i, i < 8 → StepS denS u i) := HST
  have HR : Hid (∀ (w : World), mop .mul .f64 z (hornS denS u 8) w = fop .mul .f64 z (hornS denS u 8)) := Lib.hid m3
  have HR2 : Hid (mdr .mul .f64 z (hornS denS u 8) = 0) := Lib.hid e3
  clear m3 e3
  by_cases c : R .f64 (fop .sub .f64 x (floatOfInt .f64 n)) < 0
  · rw [decide_eq_true c] at ol
    obtain ⟨q2, d2⟩ := run_fopN (op := .add) (ha c)
    have hF := HF.out
    rw [if_pos c] at hF
    unfold oneB at q2 d2 hF
    rw [← hF] at q2
    clear hx x0 x1 h h0 h1 hs hxx hx0 oe b52 n52 ha HF hn hf hz hz2 hu hr c hF HFE HST
    go_enter Try.func44, Try.ntmps44
    go_wp2_with fail
    go_loop [7, 8] (fun pv kv => ∃ i κ : Nat, i + κ = 8 ∧ kv = .int .i64 (κ : Nat) ∧ pv = .float .f64 (hornS denS u i)) (fun _ kv => (intOf kv).toNat)
    case atStart => exact ⟨0, 8, by omega, rfl, rfl⟩
    case round =>
      obtain ⟨i, κ, hi, rfl, rfl⟩ := hrel
      by_cases hlt : 1 ≤ κ
      · have st := HL.out i (by omega)
        have k1 : (1 : Int) ≤ (κ : Int) := by omega
        have k8 : (κ : Int) ≤ 8 := by omega
        have hD : denS i = floatOfInt .f64 (2 * (κ : Int) * (2 * (κ : Int) + 1)) := by unfold denS; rw [show 8 - (i : Int) = (κ : Int) by omega]
        obtain ⟨a1, b1⟩ := run_fopN (op := .mul) st.m
        obtain ⟨a5, b5⟩ := run_fopN (op := .quo) st.q
        obtain ⟨a6, b6⟩ := run_fopN (op := .sub) (x := oneB) (y := fop .quo .f64 (fop .mul .f64 u (hornS denS u i)) (denS i)) st.p
        have HP := Lib.hid (show hornS denS u (i + 1) = fop .sub .f64 oneB (fop .quo .f64 (fop .mul .f64 u (hornS denS u i)) (denS i)) from rfl)
        rw [hD] at a5 a6 b5 b6 HP
        obtain ⟨p, hpp⟩ : ∃ p, p = hornS denS u i := ⟨_, rfl⟩
        rw [← hpp] at a1 a5 a6 b1 b5 b6 HP ⊢
        unfold oneB at a6 b6 HP
        have hi' : i + 1 + (κ - 1) = 8 := by omega
        have m1' : 0 ≤ 2 * (κ : Int) := by omega
        have m2' : 2 * (κ : Int) ≤ 16 := by omega
        have m3' : 0 ≤ 2 * (κ : Int) * (2 * (κ : Int) + 1) := Int.mul_nonneg (by omega) (by omega)
        have m4' : 2 * (κ : Int) * (2 * (κ : Int) + 1) ≤ 16 * 17 := Int.mul_le_mul (by omega) (by omega) (by omega) (by omega)
        have kW : (κ : Int) - 1 = ((κ - 1 : Nat) : Int) := by omega
        have HKW := Lib.hid kW
        clear st hpp hi hD kW
        go_wp2_with fail
        go_round
        case rel => exact ⟨i + 1, κ - 1, hi', by go_num, by rw [HP.out]⟩
        case measure => simp [intOf]; omega
      · have k0 : κ = 0 := by omega
        subst k0
        have hi8 : i = 8 := by omega
        subst hi8
        have m3 := HR.out
        have e3 := HR2.out
        obtain ⟨p, hpp⟩ : ∃ p, p = hornS denS u 8 := ⟨_, rfl⟩
        rw [← hpp] at m3 e3 ⊢
        have HPP := Lib.hid hpp
        clear hpp hlt
        go_wp2_with fail
        go_ret
        exact ⟨by rw [← HPP.out]; rfl, rfl⟩
  · rw [decide_eq_false c] at ol
    have hF := HF.out
    rw [if_neg c] at hF
    rw [← hF] at n1 ol
    clear hx x0 x1 h h0 h1 hs hxx hx0 oe b52 n52 ha HF hn hf hz hz2 hu hr c hF HFE HST
    go_enter Try.func44, Try.ntmps44
    go_wp2_with fail
    go_loop [7, 8] (fun pv kv => ∃ i κ : Nat, i + κ = 8 ∧ kv = .int .i64 (κ : Nat) ∧ pv = .float .f64 (hornS denS u i)) (fun _ kv => (intOf kv).toNat)
    case atStart => exact ⟨0, 8, by omega, rfl, rfl⟩
    case round =>
      obtain ⟨i, κ, hi, rfl, rfl⟩ := hrel
      by_cases hlt : 1 ≤ κ
      · have st := HL.out i (by omega)
        have k1 : (1 : Int) ≤ (κ : Int) := by omega
        have k8 : (κ : Int) ≤ 8 := by omega
        have hD : denS i = floatOfInt .f64 (2 * (κ : Int) * (2 * (κ : Int) + 1)) := by unfold denS; rw [show 8 - (i : Int) = (κ : Int) by omega]
        obtain ⟨a1, b1⟩ := run_fopN (op := .mul) st.m
        obtain ⟨a5, b5⟩ := run_fopN (op := .quo) st.q
        obtain ⟨a6, b6⟩ := run_fopN (op := .sub) (x := oneB) (y := fop .quo .f64 (fop .mul .f64 u (hornS denS u i)) (denS i)) st.p
        have HP := Lib.hid (show hornS denS u (i + 1) = fop .sub .f64 oneB (fop .quo .f64 (fop .mul .f64 u (hornS denS u i)) (denS i)) from rfl)
        rw [hD] at a5 a6 b5 b6 HP
        obtain ⟨p, hpp⟩ : ∃ p, p = hornS denS u i := ⟨_, rfl⟩
        rw [← hpp] at a1 a5 a6 b1 b5 b6 HP ⊢
        unfold oneB at a6 b6 HP
        have hi' : i + 1 + (κ - 1) = 8 := by omega
        have m1' : 0 ≤ 2 * (κ : Int) := by omega
        have m2' : 2 * (κ : Int) ≤ 16 := by omega
        have m3' : 0 ≤ 2 * (κ : Int) * (2 * (κ : Int) + 1) := Int.mul_nonneg (by omega) (by omega)
        have m4' : 2 * (κ : Int) * (2 * (κ : Int) + 1) ≤ 16 * 17 := Int.mul_le_mul (by omega) (by omega) (by omega) (by omega)
        have kW : (κ : Int) - 1 = ((κ - 1 : Nat) : Int) := by omega
        have HKW := Lib.hid kW
        clear st hpp hi hD kW
        go_wp2_with fail
        go_round
        case rel => exact ⟨i + 1, κ - 1, hi', by go_num, by rw [HP.out]⟩
        case measure => simp [intOf]; omega
      · have k0 : κ = 0 := by omega
        subst k0
        have hi8 : i = 8 := by omega
        subst hi8
        have m3 := HR.out
        have e3 := HR2.out
        obtain ⟨p, hpp⟩ : ∃ p, p = hornS denS u 8 := ⟨_, rfl⟩
        rw [← hpp] at m3 e3 ⊢
        have HPP := Lib.hid hpp
        clear hpp hlt
        go_wp2_with fail
        go_ret
        exact ⟨by rw [← HPP.out]; rfl, rfl⟩
end Go.Proofs.Ytkbikfifnaihlaa

namespace Go.Proofs.Ytkbikfifnaihlaa
open Go.RowKit Go.Fl

theorem isFin64 {x : Nat} (hx : isN .f64 x = true) (w : World) : Calls Try.prog 55 #[.float .f64 x] w fun e w' => e = .returned (.bool true) ∧ w' = w := by
  have hxx := rnd_sub hx hx (by rw [show R .f64 x - R .f64 x = 0 by grind]; grind) (by rw [show R .f64 x - R .f64 x = 0 by grind]; grind)
  have hx0 : R .f64 (fop .sub .f64 x x) = 0 := by
    have a := hxx.le 0 zero64_N.1 (by rw [zero64_N.2]; grind)
    have b := hxx.ge 0 zero64_N.1 (by rw [zero64_N.2]; grind)
    rw [zero64_N.2] at a b
    grind
  obtain ⟨m8, d8⟩ := run_fopN hxx.num
  have oe := ord_eq0 hxx.num zero64_N.1
  rw [zero64_N.2, decide_eq_true hx0] at oe
  have dz : ∀ w : World, w.drewN 0 = w := World.drewN_zero
  clear hxx hx0 hx
  go_enter Try.func55, Try.ntmps55
  go_wp2_with fail
  go_ret
  exact ⟨rfl, rfl⟩
theorem b52_N : isN .f64 4841369599423283200 = true ∧ (1000 : Rat) ≤ R .f64 4841369599423283200 := by
  have q : Q .f64 4841369599423283200 4503599627370496 0 := ⟨by decide +kernel, by decide +kernel, by decide⟩
  exact ⟨q.num, by rw [q.R]; decide +kernel⟩
theorem n52_N : isN .f64 14064741636278059008 = true ∧ R .f64 14064741636278059008 ≤ -1000 := by
  have q : Q .f64 14064741636278059008 (-4503599627370496) 0 := ⟨by decide +kernel, by decide +kernel, by decide⟩
  exact ⟨q.num, by rw [q.R]; decide +kernel⟩

set_option maxHeartbeats 4000000 in
set_option maxRecDepth 100000 in
theorem phasorI {x : Nat} (h : PhN denI x) (w : World) : Calls Try.prog 33 #[.float .f64 x] w fun e w' => e = .returned (.complex .f32 (phF denI x).1 (phF denI x).2) ∧ w' = w := by
  have HIF := Lib.hid (fun w => isFin64 h.xn w)
  have HAB := Lib.hid (fun w => absW x w)
  have HFR := Lib.hid (fun w => fractionW h.f w)
  obtain ⟨ab0, abR⟩ := abs_R h.xn
  have oa := ord_ge0 ab0 b52_N.1
  rw [show decide (R .f64 (absB x) < R .f64 4841369599423283200) = true from decide_eq_true (by
    rw [abR]
    have := h.lo
    have := h.hi
    have := b52_N.2
    split <;> grind)] at oa
  have oa2 : (FloatKind.f64.format.order (absB x) 4841369599423283200 == some .gt || FloatKind.f64.format.order (absB x) 4841369599423283200 == some .eq) = false := oa
  have HSD := Lib.hid (fun w => sineW h.fd (by rw [(frac_low h.d h.d0 h.d1).2]; exact h.d0) (by rw [(frac_low h.d h.d0 h.d1).2]; exact h.d1) h.sd w)
  have hlt : R .f64 (phG x) < 1 / 4 := h.q.lt
  have hgn : isN .f64 (phG x) = true := h.q.n _ (Nat.le_refl _)
  have HSG := Lib.hid (fun w => sineW h.fg (by rw [(frac_low hgn h.g0 (Rat.le_of_lt hlt)).2]; exact h.g0) (by rw [(frac_low hgn h.g0 (Rat.le_of_lt hlt)).2]; exact Rat.le_of_lt hlt) h.sg w)
  obtain ⟨md, dd⟩ := run_fopN (op := .sub) h.d
  have hc := h.c
  have hs := h.s
  have hnc := h.nc
  have hns := h.ns
  have hq4 := h.q.le4
  have HGE := Lib.hid h.q.ge
  have HNN := Lib.hid h.q.n
  have dz : ∀ w : World, w.drewN 0 = w := World.drewN_zero
  unfold phF at hnc hns ⊢
  unfold phC phS at hc hs hnc hns ⊢
  unfold phG at HSD HSG md dd hc hs hnc hns hlt ⊢
  obtain ⟨f, hf⟩ : ∃ f, f = fracF x := ⟨_, rfl⟩
  rw [← hf] at HFR HSD HSG md dd hc hs hnc hns hq4 HGE HNN hlt ⊢
  obtain ⟨q, hq⟩ : ∃ q, q = qOf f := ⟨_, rfl⟩
  rw [← hq] at HSD HSG md dd hc hs hnc hns hq4 HGE HNN hlt ⊢
  obtain ⟨C, hC⟩ : ∃ C, C = sineX denI (fop .sub .f64 quarB (quadF f q)) := ⟨_, rfl⟩
  obtain ⟨S, hS⟩ : ∃ S, S = sineX denI (quadF f q) := ⟨_, rfl⟩
  rw [← hC] at HSD hc hs hnc hns ⊢
  rw [← hS] at HSG hc hs hnc hns ⊢
  unfold quarB at md dd HSD
  have HC := Lib.hid hc
  have HS := Lib.hid hs
  have HNC := Lib.hid hnc
  have HNS := Lib.hid hns
  have HLT := Lib.hid hlt
  clear h oa ab0 abR hgn hf hq hC hS hc hs hnc hns hlt
  go_enter Try.func33, Try.ntmps33
  go_wp2_with fail
  refine (HIF.out _).mono ?_
  rintro e w ⟨rfl, rfl⟩
  go_wp2_with fail
  refine (HAB.out _).mono ?_
  rintro e w ⟨rfl, rfl⟩
  go_wp2_with fail
  refine (HFR.out _).mono ?_
  rintro e w ⟨rfl, rfl⟩
  go_wp2_with fail
  go_loop [4, 5] (fun fv qv => ∃ i : Nat, i ≤ q ∧ fv = .float .f64 (quadF f i) ∧ qv = .int .i64 (i : Nat)) (fun _ qv => 4 - (intOf qv).toNat)
  case atStart => exact ⟨0, Nat.zero_le _, rfl, rfl⟩
  case round =>
    obtain ⟨i, hi, rfl, rfl⟩ := hrel
    have hin := HNN.out i hi
    have og := ord_ge0 hin quar_In.1
    rw [quar_R] at og
    by_cases hlt : i < q
    · rw [decide_eq_false (HGE.out i hlt)] at og
      have og2 : (FloatKind.f64.format.order (quadF f i) quarB == some .gt || FloatKind.f64.format.order (quadF f i) quarB == some .eq) = true := og
      have hn1 := HNN.out (i + 1) (by omega)
      have e1 : quadF f (i + 1) = fop .sub .f64 (quadF f i) quarB := rfl
      have HE := Lib.hid e1
      rw [e1] at hn1
      obtain ⟨m1, d1⟩ := run_fopN hn1
      unfold quarB at og2 m1 d1 HE
      have i4 : (i : Int) < 4 := by omega
      have i0 : (0 : Int) ≤ (i : Int) := by omega
      clear og hin hn1 e1
      go_wp2_with fail
      go_round
      case rel => exact ⟨i + 1, by omega, by rw [HE.out], by go_num⟩
      case measure => simp [intOf]; omega
    · obtain rfl : i = q := by omega
      rw [decide_eq_true HLT.out] at og
      have og2 : (FloatKind.f64.format.order (quadF f i) quarB == some .gt || FloatKind.f64.format.order (quadF f i) quarB == some .eq) = false := og
      unfold quarB at og2
      clear og hin hlt hi
      obtain ⟨g, hg⟩ : ∃ g, g = quadF f i := ⟨_, rfl⟩
      rw [← hg] at og2 md dd HSD HSG ⊢
      clear hg
      have hq5 : i = 0 ∨ i = 1 ∨ i = 2 ∨ i = 3 ∨ i = 4 := by omega
      have hcc := HC.out
      have hss := HS.out
      have hnc := HNC.out
      have hns := HNS.out
      rcases hq5 with rfl | rfl | rfl | rfl | rfl
      all_goals
        simp only [turnC, turnS, if_true, if_false, Nat.reduceEqDiff] at hcc hss hnc hns ⊢
        obtain ⟨m3, d3⟩ := run_nar32 (isN.nan hcc) hnc
        obtain ⟨m4, d4⟩ := run_nar32 (isN.nan hss) hns
        first
          | (obtain ⟨m5, d5⟩ := run_fopN hcc)
          | skip
        first
          | (obtain ⟨m6, d6⟩ := run_fopN hss)
          | skip
        clear hcc hss hnc hns HC HS HNC HNS HNN HGE HLT
        go_wp2_with fail
        refine (HSD.out _).mono ?_
        rintro e w ⟨rfl, rfl⟩
        go_wp2_with fail
        refine (HSG.out _).mono ?_
        rintro e w ⟨rfl, rfl⟩
        go_wp2_with fail
        go_ret
        exact ⟨rfl, rfl⟩
theorem narrowT {x : Nat} (h : nanB .f64 x = false) (hn : isN .f32 (fcv .f64 .f32 x) = true) (w : World) : Calls Try.prog 45 #[.float .f64 x] w fun e w' => e = .returned (.float .f32 (fcv .f64 .f32 x)) ∧ w' = w := by
  obtain ⟨m1, d1⟩ := run_nar32 h hn
  have dz : ∀ w : World, w.drewN 0 = w := World.drewN_zero
  clear h hn
  go_enter Try.func45, Try.ntmps45
  go_wp2_with fail
  go_ret
  exact ⟨rfl, rfl⟩
set_option maxHeartbeats 4000000 in
set_option maxRecDepth 100000 in
theorem phasorS {x : Nat} (h : PhN denS x) (w : World) : Calls Try.prog 7 #[.float .f64 x] w fun e w' => e = .returned (.complex .f32 (phF denS x).1 (phF denS x).2) ∧ w' = w := by
  have HPH : Hid (∀ w, Calls Try.prog 18 #[.float .f64 x] w fun e w' => e = .returned (.complex .f32 (phF denS x).1 (phF denS x).2) ∧ w' = w) := Lib.hid fun w => by
    have hci := fun w => run_convert_float_int (P := Try.prog) (w := w) 30 2 .f64 .i64 x (fracN x) (by kernel_rfl) (by kernel_rfl) h.f.n
    have hxx := rnd_sub h.xn h.xn (by rw [show R .f64 x - R .f64 x = 0 by grind]; grind) (by rw [show R .f64 x - R .f64 x = 0 by grind]; grind)
    have hx0 : R .f64 (fop .sub .f64 x x) = 0 := by
      have a := hxx.le 0 zero64_N.1 (by rw [zero64_N.2]; grind)
      have b := hxx.ge 0 zero64_N.1 (by rw [zero64_N.2]; grind)
      rw [zero64_N.2] at a b
      grind
    obtain ⟨m8, d8⟩ := run_fopN hxx.num
    have oe := ord_eq0 hxx.num zero64_N.1
    rw [zero64_N.2, decide_eq_true hx0] at oe
    have on : (FloatKind.f64.format.order (fop .sub .f64 x x) 0 != some .eq) = false := by unfold bne; rw [oe]; rfl
    have g1' := ord_ge0 h.xn b52_N.1
    rw [show decide (R .f64 x < R .f64 4841369599423283200) = true from decide_eq_true (by have := b52_N.2; have := h.hi; grind)] at g1'
    have g1 : (FloatKind.f64.format.order x 4841369599423283200 == some .gt || FloatKind.f64.format.order x 4841369599423283200 == some .eq) = false := g1'
    have g2' := ord_le0 h.xn n52_N.1
    rw [show decide (R .f64 14064741636278059008 < R .f64 x) = true from decide_eq_true (by have := n52_N.2; have := h.lo; grind)] at g2'
    have g2 : (FloatKind.f64.format.order x 14064741636278059008 == some .lt || FloatKind.f64.format.order x 14064741636278059008 == some .eq) = false := g2'
    have hlt : R .f64 (phG x) < 1 / 4 := h.q.lt
    have hgn : isN .f64 (phG x) = true := h.q.n _ (Nat.le_refl _)
    have HSD := Lib.hid (fun w => sineS h.d h.d0 h.d1 h.fd (by rw [(frac_low h.d h.d0 h.d1).2]; exact h.d0) (by rw [(frac_low h.d h.d0 h.d1).2]; exact h.d1) h.sd w)
    have HSG := Lib.hid (fun w => sineS hgn h.g0 (Rat.le_of_lt hlt) h.fg (by rw [(frac_low hgn h.g0 (Rat.le_of_lt hlt)).2]; exact h.g0) (by rw [(frac_low hgn h.g0 (Rat.le_of_lt hlt)).2]; exact Rat.le_of_lt hlt) h.sg w)
    obtain ⟨md, dd⟩ := run_fopN (op := .sub) h.d
    have hc := h.c
    have hs := h.s
    have hnc := h.nc
    have hns := h.ns
    have hq4 := h.q.le4
    have HGE := Lib.hid h.q.ge
    have HNN := Lib.hid h.q.n
    have dz : ∀ w : World, w.drewN 0 = w := World.drewN_zero
    obtain ⟨n1, d1⟩ := run_fopN (op := .sub) (x := x) (y := floatOfInt .f64 (fracN x)) h.f.s
    have ol := ord_lt0 h.f.s zero64_N.1
    rw [zero64_N.2] at ol
    have ha := h.f.a
    have HF := Lib.hid (show fracF x = if R .f64 (frac0 x) < 0 then fop .add .f64 (frac0 x) oneB else frac0 x from rfl)
    unfold frac0 at ol ha HF
    obtain ⟨n, hn⟩ : ∃ n, n = fracN x := ⟨_, rfl⟩
    rw [← hn] at hci n1 d1 ol ha HF
    unfold phF at hnc hns ⊢
    unfold phC phS at hc hs hnc hns ⊢
    unfold phG at HSD HSG md dd hc hs hnc hns hlt ⊢
    obtain ⟨f, hf⟩ : ∃ f, f = fracF x := ⟨_, rfl⟩
    rw [← hf] at HF HSD HSG md dd hc hs hnc hns hq4 HGE HNN hlt ⊢
    obtain ⟨q, hq⟩ : ∃ q, q = qOf f := ⟨_, rfl⟩
    rw [← hq] at HSD HSG md dd hc hs hnc hns hq4 HGE HNN hlt ⊢
    obtain ⟨C, hC⟩ : ∃ C, C = sineX denS (fop .sub .f64 quarB (quadF f q)) := ⟨_, rfl⟩
    obtain ⟨S, hS⟩ : ∃ S, S = sineX denS (quadF f q) := ⟨_, rfl⟩
    rw [← hC] at HSD hc hs hnc hns ⊢
    rw [← hS] at HSG hc hs hnc hns ⊢
    unfold quarB at md dd HSD
    have HC := Lib.hid hc
    have HS := Lib.hid hs
    have HNC := Lib.hid hnc
    have HNS := Lib.hid hns
    have HLT := Lib.hid hlt
    clear h g1' g2' hgn hf hq hC hS hc hs hnc hns hlt hxx hx0 oe hn
    by_cases c : R .f64 (fop .sub .f64 x (floatOfInt .f64 n)) < 0
    · rw [decide_eq_true c] at ol
      obtain ⟨q2, d2⟩ := run_fopN (op := .add) (ha c)
      have hF := HF.out
      rw [if_pos c] at hF
      unfold oneB at q2 d2 hF
      rw [← hF] at q2
      clear ha HF c hF
      go_enter Try.func18, Try.ntmps18
      go_wp2_with fail
      go_loop [3, 4] (fun fv qv => ∃ i : Nat, i ≤ q ∧ fv = .float .f64 (quadF f i) ∧ qv = .int .i64 (i : Nat)) (fun _ qv => 4 - (intOf qv).toNat)
      case atStart => exact ⟨0, Nat.zero_le _, rfl, rfl⟩
      case round =>
        obtain ⟨i, hi, rfl, rfl⟩ := hrel
        have hin := HNN.out i hi
        have og := ord_ge0 hin quar_In.1
        rw [quar_R] at og
        by_cases hlt : i < q
        · rw [decide_eq_false (HGE.out i hlt)] at og
          have og2 : (FloatKind.f64.format.order (quadF f i) quarB == some .gt || FloatKind.f64.format.order (quadF f i) quarB == some .eq) = true := og
          have hn1 := HNN.out (i + 1) (by omega)
          have e1 : quadF f (i + 1) = fop .sub .f64 (quadF f i) quarB := rfl
          have HE := Lib.hid e1
          rw [e1] at hn1
          obtain ⟨m1, d1⟩ := run_fopN hn1
          unfold quarB at og2 m1 d1 HE
          have i4 : (i : Int) < 4 := by omega
          have i0 : (0 : Int) ≤ (i : Int) := by omega
          clear og hin hn1 e1
          go_wp2_with fail
          go_round
          case rel => exact ⟨i + 1, by omega, by rw [HE.out], by go_num⟩
          case measure => simp [intOf]; omega
        · obtain rfl : i = q := by omega
          rw [decide_eq_true HLT.out] at og
          have og2 : (FloatKind.f64.format.order (quadF f i) quarB == some .gt || FloatKind.f64.format.order (quadF f i) quarB == some .eq) = false := og
          unfold quarB at og2
          clear og hin hlt hi
          obtain ⟨g, hg⟩ : ∃ g, g = quadF f i := ⟨_, rfl⟩
          rw [← hg] at og2 md dd HSD HSG ⊢
          clear hg
          have hq5 : i = 0 ∨ i = 1 ∨ i = 2 ∨ i = 3 ∨ i = 4 := by omega
          have hcc := HC.out
          have hss := HS.out
          have hnc := HNC.out
          have hns := HNS.out
          rcases hq5 with rfl | rfl | rfl | rfl | rfl
          all_goals
            simp only [turnC, turnS, if_true, if_false, Nat.reduceEqDiff] at hcc hss hnc hns ⊢
            have HN1 := Lib.hid (fun w => narrowT (isN.nan hcc) hnc w)
            have HN2 := Lib.hid (fun w => narrowT (isN.nan hss) hns w)
            first
              | (obtain ⟨m5, d5⟩ := run_fopN hcc)
              | skip
            first
              | (obtain ⟨m6, d6⟩ := run_fopN hss)
              | skip
            clear hcc hss hnc hns HC HS HNC HNS HNN HGE HLT
            go_wp2_with fail
            refine (HSD.out _).mono ?_
            rintro e w ⟨rfl, rfl⟩
            go_wp2_with fail
            refine (HSG.out _).mono ?_
            rintro e w ⟨rfl, rfl⟩
            go_wp2_with fail
            refine (HN1.out _).mono ?_
            rintro e w ⟨rfl, rfl⟩
            go_wp2_with fail
            refine (HN2.out _).mono ?_
            rintro e w ⟨rfl, rfl⟩
            go_wp2_with fail
            go_ret
            exact ⟨rfl, rfl⟩
    · rw [decide_eq_false c] at ol
      have hF := HF.out
      rw [if_neg c] at hF
      rw [← hF] at n1 ol
      clear ha HF c hF
      go_enter Try.func18, Try.ntmps18
      go_wp2_with fail
      go_loop [3, 4] (fun fv qv => ∃ i : Nat, i ≤ q ∧ fv = .float .f64 (quadF f i) ∧ qv = .int .i64 (i : Nat)) (fun _ qv => 4 - (intOf qv).toNat)
      case atStart => exact ⟨0, Nat.zero_le _, rfl, rfl⟩
      case round =>
        obtain ⟨i, hi, rfl, rfl⟩ := hrel
        have hin := HNN.out i hi
        have og := ord_ge0 hin quar_In.1
        rw [quar_R] at og
        by_cases hlt : i < q
        · rw [decide_eq_false (HGE.out i hlt)] at og
          have og2 : (FloatKind.f64.format.order (quadF f i) quarB == some .gt || FloatKind.f64.format.order (quadF f i) quarB == some .eq) = true := og
          have hn1 := HNN.out (i + 1) (by omega)
          have e1 : quadF f (i + 1) = fop .sub .f64 (quadF f i) quarB := rfl
          have HE := Lib.hid e1
          rw [e1] at hn1
          obtain ⟨m1, d1⟩ := run_fopN hn1
          unfold quarB at og2 m1 d1 HE
          have i4 : (i : Int) < 4 := by omega
          have i0 : (0 : Int) ≤ (i : Int) := by omega
          clear og hin hn1 e1
          go_wp2_with fail
          go_round
          case rel => exact ⟨i + 1, by omega, by rw [HE.out], by go_num⟩
          case measure => simp [intOf]; omega
        · obtain rfl : i = q := by omega
          rw [decide_eq_true HLT.out] at og
          have og2 : (FloatKind.f64.format.order (quadF f i) quarB == some .gt || FloatKind.f64.format.order (quadF f i) quarB == some .eq) = false := og
          unfold quarB at og2
          clear og hin hlt hi
          obtain ⟨g, hg⟩ : ∃ g, g = quadF f i := ⟨_, rfl⟩
          rw [← hg] at og2 md dd HSD HSG ⊢
          clear hg
          have hq5 : i = 0 ∨ i = 1 ∨ i = 2 ∨ i = 3 ∨ i = 4 := by omega
          have hcc := HC.out
          have hss := HS.out
          have hnc := HNC.out
          have hns := HNS.out
          rcases hq5 with rfl | rfl | rfl | rfl | rfl
          all_goals
            simp only [turnC, turnS, if_true, if_false, Nat.reduceEqDiff] at hcc hss hnc hns ⊢
            have HN1 := Lib.hid (fun w => narrowT (isN.nan hcc) hnc w)
            have HN2 := Lib.hid (fun w => narrowT (isN.nan hss) hns w)
            first
              | (obtain ⟨m5, d5⟩ := run_fopN hcc)
              | skip
            first
              | (obtain ⟨m6, d6⟩ := run_fopN hss)
              | skip
            clear hcc hss hnc hns HC HS HNC HNS HNN HGE HLT
            go_wp2_with fail
            refine (HSD.out _).mono ?_
            rintro e w ⟨rfl, rfl⟩
            go_wp2_with fail
            refine (HSG.out _).mono ?_
            rintro e w ⟨rfl, rfl⟩
            go_wp2_with fail
            refine (HN1.out _).mono ?_
            rintro e w ⟨rfl, rfl⟩
            go_wp2_with fail
            refine (HN2.out _).mono ?_
            rintro e w ⟨rfl, rfl⟩
            go_wp2_with fail
            go_ret
            exact ⟨rfl, rfl⟩
  clear h
  go_enter Try.func7, Try.ntmps7
  go_wp2_with fail
  refine (HPH.out _).mono ?_
  rintro e w ⟨rfl, rfl⟩
  go_wp2_with fail
  go_ret
  exact ⟨rfl, rfl⟩
end Go.Proofs.Ytkbikfifnaihlaa

namespace Go.Fl
open Ieee Go.RowKit
def stepN (t : Nat) : Nat → Nat
  | 0 => t
  | i + 1 => stepF (stepN t i)
theorem zero32_R : R .f32 0 = 0 := zero32_N.2
end Go.Fl
namespace Go.Proofs.Ytkbikfifnaihlaa
open Go.RowKit Go.Fl

theorem isFinW {x : Nat} (hx : isN .f32 x = true) (w : World) : Calls Try.prog 30 #[.float .f32 x] w fun e w' => e = .returned (.bool true) ∧ w' = w := by
  have hxx := rnd_sub hx hx (by rw [show R .f32 x - R .f32 x = 0 by grind]; grind) (by rw [show R .f32 x - R .f32 x = 0 by grind]; grind)
  have hx0 : R .f32 (fop .sub .f32 x x) = 0 := by
    have a := hxx.le 0 zero32_N.1 (by rw [zero32_N.2]; grind)
    have b := hxx.ge 0 zero32_N.1 (by rw [zero32_N.2]; grind)
    rw [zero32_N.2] at a b
    grind
  obtain ⟨m8, d8⟩ := run_fopN hxx.num
  have oe := ord_eq0 hxx.num zero32_N.1
  rw [zero32_N.2, decide_eq_true hx0] at oe
  have dz : ∀ w : World, w.drewN 0 = w := World.drewN_zero
  clear hxx hx0 hx
  go_enter Try.func30, Try.ntmps30
  go_wp2_with fail
  go_ret
  exact ⟨rfl, rfl⟩

set_option maxHeartbeats 4000000 in
set_option maxRecDepth 100000 in
theorem angleW {y x : Nat} (h : AgN y x) (w : World) : Calls Try.prog 50 #[.float .f32 y, .float .f32 x] w fun e w' => e = .returned (.float .f32 (agF y x)) ∧ w' = w := by
  have HFX := Lib.hid (fun w => isFinW h.xn w)
  have HFY := Lib.hid (fun w => isFinW h.yn w)
  have oxe := ord_eq0 h.xn zero32_N.1
  have oye := ord_eq0 h.yn zero32_N.1
  rw [zero32_R] at oxe oye
  obtain ⟨my, dy⟩ := run_wid64 (isN.nan h.yn)
  obtain ⟨mx, dx⟩ := run_wid64 (isN.nan h.xn)
  have HAY := Lib.hid (fun w => absW (fcv .f32 .f64 y) w)
  have HAX := Lib.hid (fun w => absW (fcv .f32 .f64 x) w)
  obtain ⟨mq, dq⟩ := run_quoN h.oct.a h.oct.b h.oct.nz
  obtain ⟨mq2, dq2⟩ := run_quoN h.oct.b h.oct.a h.oct.nz.symm
  have og := ord_gt0 h.oct.a h.oct.b
  have olx := ord_lt0 h.xn zero32_N.1
  have oly := ord_lt0 h.yn zero32_N.1
  rw [zero32_R] at olx oly
  have HNZ := Lib.hid h.nz
  have hang := h.oct.ang
  have HO := Lib.hid h.oct.o
  have HH := Lib.hid h.h
  have HS := Lib.hid h.s
  have HFN := Lib.hid h.f
  have dz : ∀ w : World, w.drewN 0 = w := World.drewN_zero
  have eT : agT (agA y) (agA x) = if R .f64 (agA x) < R .f64 (agA y) then fop .quo .f64 (agA x) (agA y) else fop .quo .f64 (agA y) (agA x) := rfl
  have eO : agO (agA y) (agA x) = if R .f64 (agA x) < R .f64 (agA y) then fop .sub .f64 quarB (agG (agA y) (agA x)) else agG (agA y) (agA x) := rfl
  have eH : agH y x = if R .f32 x < 0 then fop .sub .f64 halfB (agO (agA y) (agA x)) else agO (agA y) (agA x) := rfl
  have eS : agS y x = if R .f32 y < 0 then Op.negFloat .f64 (agH y x) else agH y x := rfl
  unfold agF at HFN ⊢
  obtain ⟨A, hA⟩ : ∃ A, A = agA y := ⟨_, rfl⟩
  obtain ⟨B, hB⟩ : ∃ B, B = agA x := ⟨_, rfl⟩
  have hAe : absB (fcv .f32 .f64 y) = A := by rw [hA]; rfl
  have hBe : absB (fcv .f32 .f64 x) = B := by rw [hB]; rfl
  rw [hAe] at HAY
  rw [hBe] at HAX
  rw [← hA, ← hB] at mq mq2 dq dq2 og hang HO eT eO
  rw [← hA, ← hB] at eH
  obtain ⟨t, ht⟩ : ∃ t, t = agT A B := ⟨_, rfl⟩
  rw [← ht] at hang eT
  have hG : agG A B = angG (stepN t 3) := by unfold agG; rw [← ht]; rfl
  rw [hG] at eO
  have HST := Lib.hid (show ∀ i, i < 3 → StepT (stepN t i) from fun i hi => by
    have : i = 0 ∨ i = 1 ∨ i = 2 := by omega
    rcases this with rfl | rfl | rfl
    · exact hang.s0
    · exact hang.s1
    · exact hang.s2)
  have hu : isN .f64 (angU (stepN t 3)) = true := hang.u
  have HSA := Lib.hid (show ∀ i, i < 8 → StepA (angU (stepN t 3)) i from hang.st)
  have hm : isN .f64 (fop .mul .f64 (stepN t 3) (hornA (angU (stepN t 3)) 8)) = true := hang.m
  have he : isN .f64 (fop .mul .f64 eightB (fop .mul .f64 (stepN t 3) (hornA (angU (stepN t 3)) 8))) = true := hang.e
  have hg : isN .f64 (angG (stepN t 3)) = true := hang.g
  have HU := Lib.hid hu
  have HM := Lib.hid hm
  have HE := Lib.hid he
  have HG := Lib.hid hg
  have EO := Lib.hid eO
  have EH := Lib.hid eH
  have ES := Lib.hid eS
  have ET := Lib.hid eT
  obtain ⟨O, hO⟩ : ∃ O, O = agO A B := ⟨_, rfl⟩
  obtain ⟨H, hH⟩ : ∃ H, H = agH y x := ⟨_, rfl⟩
  obtain ⟨Z, hZ⟩ : ∃ Z, Z = agS y x := ⟨_, rfl⟩
  rw [← hO] at HO EO EH
  rw [← hH] at HH EH ES
  rw [← hZ] at HS HFN ES ⊢
  obtain ⟨Y, hY⟩ : ∃ Y, Y = fcv .f32 .f64 y := ⟨_, rfl⟩
  obtain ⟨X, hX⟩ : ∃ X, X = fcv .f32 .f64 x := ⟨_, rfl⟩
  rw [← hY] at HAY my
  rw [← hX] at HAX mx
  clear h hang hA hB hAe hBe ht hG hu hm he hg eO eH eS eT hO hH hZ hY hX
  go_enter Try.func50, Try.ntmps50
  by_cases cx : R .f32 x = 0
  all_goals
    first
      | (have cy : ¬ R .f32 y = 0 := fun k => HNZ.out ⟨cx, k⟩; rw [decide_eq_true cx] at oxe; rw [decide_eq_false cy] at oye; clear cx cy)
      | (rw [decide_eq_false cx] at oxe; clear cx oye)
    by_cases co : R .f64 B < R .f64 A
    all_goals
      have hT := ET.out
      first
        | rw [if_pos co] at hT
        | rw [if_neg co] at hT
      first
        | rw [decide_eq_true co] at og
        | rw [decide_eq_false co] at og
      first
        | rw [← hT] at mq
        | rw [← hT] at mq2
      clear hT
      go_wp2_with fail
      refine (HFX.out _).mono ?_
      rintro e w ⟨rfl, rfl⟩
      go_wp2_with fail
      refine (HFY.out _).mono ?_
      rintro e w ⟨rfl, rfl⟩
      go_wp2_with fail
      refine (HAY.out _).mono ?_
      rintro e w ⟨rfl, rfl⟩
      go_wp2_with fail
      refine (HAX.out _).mono ?_
      rintro e w ⟨rfl, rfl⟩
      go_wp2_with fail
      go_loop [7, 43] (fun tv iv => ∃ i : Nat, i ≤ 3 ∧ iv = .int .i64 (i : Nat) ∧ tv = .float .f64 (stepN t i)) (fun _ iv => 3 - (intOf iv).toNat)
      case atStart => exact ⟨0, by omega, rfl, rfl⟩
      case round =>
        obtain ⟨i, hi, rfl, rfl⟩ := hrel
        by_cases hlt : i < 3
        · have st := HST.out i hlt
          have i0 : (0 : Int) ≤ (i : Int) := by omega
          have i3 : (i : Int) < 3 := by omega
          have HN := Lib.hid (show stepN t (i + 1) = stepF (stepN t i) from rfl)
          have HSQ := Lib.hid (fun W => mathSqrtR st.s W)
          have hq := st.q
          have hb := st.b
          have ha := st.a
          obtain ⟨T, hT⟩ : ∃ T, T = stepN t i := ⟨_, rfl⟩
          rw [← hT] at HN HSQ hq hb ha st ⊢
          obtain ⟨m1, d1⟩ := run_fopN st.m
          unfold stepF at hq HN
          obtain ⟨s, hs⟩ : ∃ s, s = sqrtK (stepR T) := ⟨_, rfl⟩
          rw [← hs] at hq HN hb HSQ
          unfold stepR at HSQ ha
          obtain ⟨m2, d2⟩ := run_fopN (op := .add) ha
          obtain ⟨m3, d3⟩ := run_fopN (op := .add) hb
          obtain ⟨m4, d4⟩ := run_fopN (op := .quo) hq
          unfold oneB at m2 m3 m4 d2 d3 d4 HSQ HN
          clear st hT hs hq hb ha hlt
          go_wp2_with fail
          refine (HSQ.out _).mono ?_
          rintro e w ⟨rfl, rfl⟩
          go_wp2_with fail
          go_round
          case rel => exact ⟨i + 1, by omega, by go_num, by rw [HN.out]⟩
          case measure => simp [intOf]; omega
        · obtain rfl : i = 3 := by omega
          have hu := HU.out
          unfold angU at hu
          obtain ⟨mu, du⟩ := run_fopN hu
          obtain ⟨T, hT⟩ : ∃ T, T = stepN t 3 := ⟨_, rfl⟩
          rw [← hT] at HU HSA HM HE HG EO mu du ⊢
          obtain ⟨u, huu⟩ : ∃ u, u = fop .mul .f64 T T := ⟨_, rfl⟩
          have hUe : angU T = u := by rw [huu]; rfl
          have hGe : angG T = fop .quo .f64 (fop .mul .f64 eightB (fop .mul .f64 T (hornA u 8))) fullB := by unfold angG; rw [hUe]
          rw [hUe] at HSA HM HE
          rw [← huu] at mu
          clear hT hu huu hUe hlt hi HU HST
          go_wp2_with fail
          go_loop [9, 10] (fun pv kv => ∃ j : Nat, j ≤ 8 ∧ kv = .float .f64 (kAB j) ∧ pv = .float .f64 (hornA u j)) (fun _ kv => kMeas kv)
          case atStart => exact ⟨0, by omega, rfl, rfl⟩
          case round =>
            obtain ⟨j, hj, rfl, rfl⟩ := hrel
            have hk := kA_at hj
            have ok := hk.o
            by_cases hlt : j < 8
            · rw [decide_eq_true hlt] at ok
              have st := HSA.out j hlt
              have HME := Lib.hid (show kMeas (.float .f64 (kAB (j + 1))) < kMeas (.float .f64 (kAB j)) by rw [hk.me, (kA_at (show j + 1 ≤ 8 by omega)).me]; omega)
              obtain ⟨a1, b1⟩ := run_fopN (op := .mul) st.m
              obtain ⟨a2, b2⟩ := run_fopN (op := .quo) st.q
              obtain ⟨a3, b3⟩ := run_fopN (op := .sub) (x := fop .quo .f64 oneB (kAB j)) (y := fop .mul .f64 u (hornA u j)) st.p
              obtain ⟨a4, b4⟩ := run_fopN (op := .sub) hk.n
              have HP := Lib.hid (show hornA u (j + 1) = fop .sub .f64 (fop .quo .f64 oneB (kAB j)) (fop .mul .f64 u (hornA u j)) from rfl)
              have HK := Lib.hid (show kAB (j + 1) = fop .sub .f64 (kAB j) twoB from rfl)
              obtain ⟨k, hkk⟩ : ∃ k, k = kAB j := ⟨_, rfl⟩
              obtain ⟨p, hpp⟩ : ∃ p, p = hornA u j := ⟨_, rfl⟩
              rw [← hkk] at ok a2 a3 a4 b2 b3 b4 HP HK HME ⊢
              rw [← hpp] at a1 a3 b1 b3 HP ⊢
              unfold oneB at ok a2 a3 b2 b3 HP
              unfold twoB at a4 b4 HK
              clear hk st hkk hpp
              go_wp2_with fail
              go_round
              case rel => exact ⟨j + 1, by omega, by rw [HK.out], by rw [HP.out]⟩
              case measure => rw [HK.out] at HME; exact HME.out
            · rw [decide_eq_false hlt] at ok
              obtain rfl : j = 8 := by omega
              obtain ⟨k, hkk⟩ : ∃ k, k = kAB 8 := ⟨_, rfl⟩
              rw [← hkk] at ok ⊢
              have hm := HM.out
              have he := HE.out
              have hg := HG.out
              have hO := EO.out
              rw [hGe] at hg hO
              obtain ⟨p, hpp⟩ : ∃ p, p = hornA u 8 := ⟨_, rfl⟩
              rw [← hpp] at hm he hg hO ⊢
              obtain ⟨m1, d1⟩ := run_fopN (op := .mul) hm
              obtain ⟨m2, d2⟩ := run_fopN (op := .mul) he
              obtain ⟨m3, d3⟩ := run_fopN (op := .quo) hg
              have hOn := HO.out
              have hHn := HH.out
              have hZn := HS.out
              have hH := EH.out
              have hZ := ES.out
              obtain ⟨m6, d6⟩ := run_nar32 (isN.nan hZn) HFN.out
              unfold oneB at ok
              unfold eightB at m2 d2 m3 d3 hO
              unfold fullB at m3 d3 hO
              first
                | (rw [if_pos co] at hO; rw [hO] at hOn; obtain ⟨m4, d4⟩ := run_fopN (op := .sub) hOn; rw [← hO] at m4; unfold quarB at m4 d4)
                | (rw [if_neg co] at hO; rw [← hO] at m3)
              by_cases sx : R .f32 x < 0
              all_goals
                by_cases sy : R .f32 y < 0
                all_goals
                  first
                    | (rw [if_pos sx] at hH; rw [decide_eq_true sx] at olx; rw [hH] at hHn; obtain ⟨m5, d5⟩ := run_fopN (op := .sub) hHn; rw [← hH] at m5; unfold halfB at m5 d5)
                    | (rw [if_neg sx] at hH; rw [decide_eq_false sx] at olx; subst hH)
                  first
                    | (rw [if_pos sy] at hZ; rw [decide_eq_true sy] at oly)
                    | (rw [if_neg sy] at hZ; rw [decide_eq_false sy] at oly)
                  have HZ := Lib.hid hZ
                  subst hZ
                  clear hk hkk hpp hm he hg hO hOn hHn hZn HM HE HG EO EH ES ET HSA HO HH HS HFN HNZ hGe hlt hj co sx sy
                  try clear hH
                  go_wp2_with fail
                  go_ret
                  exact ⟨rfl, rfl⟩
end Go.Proofs.Ytkbikfifnaihlaa

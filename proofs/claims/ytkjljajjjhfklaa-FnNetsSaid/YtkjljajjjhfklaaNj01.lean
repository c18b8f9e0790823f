/- Floats whatever their bits: not-a-numbers are one value; what each operation of the model gives, as a plain function of its operands and of the world's tape. Plain functions on numbers whose not-a-numbers are made one, and what the tests of the program are of them. Nets in memory: slices of numbers, of spots and of facets, by what they read as. -/
import Derived.WalkKit
import Derived.WalkLawsBesides
import Derived.Deep.Draws
import Derived.Lib.Hide
namespace Go.Fl
open Go.RowKit

/-- Are these the bits of a not-a-number? -/
def nanB (k : FloatKind) (b : Nat) : Bool := (k.format.read b).isNaN
/-- The one not-a-number that stands for all. -/
def qnan (k : FloatKind) : Nat := match k with | .f32 => 2143289344 | .f64 => 9221120237041090560
/-- Bits, all not-a-numbers made one. -/
def can (k : FloatKind) (b : Nat) : Nat := if nanB k b then qnan k else b

theorem nanB_qnan (k : FloatKind) : nanB k (qnan k) = true := by cases k <;> decide +kernel
theorem can_can (k : FloatKind) (b : Nat) : can k (can k b) = can k b := by
  unfold can
  by_cases h : nanB k b = true
  · rw [if_pos h, if_pos (nanB_qnan k)]
  · rw [if_neg h, if_neg h]
theorem can_of_not {k : FloatKind} {b : Nat} (h : nanB k b = false) : can k b = b := by simp [can, h]
theorem can_of_nan {k : FloatKind} {b : Nat} (h : nanB k b = true) : can k b = qnan k := by simp [can, h]
theorem nanB_can (k : FloatKind) (b : Nat) : nanB k (can k b) = nanB k b := by
  unfold can
  by_cases h : nanB k b = true
  · rw [if_pos h, h]; exact nanB_qnan k
  · rw [if_neg h]

/-- An operation on bits as a plain function: where it is invalid, the one not-a-number. -/
def fop (op : BinOp) (k : FloatKind) (x y : Nat) : Nat := (floatBits op k x y).getD (qnan k)

/-- What the model gives in the world w. -/
def mop (op : BinOp) (k : FloatKind) (x y : Nat) (w : World) : Nat :=
  match floatBits op k x y with
  | some r => r
  | none => (Question.nanBits k x y).cut (w.tape w.drawn (.nanBits k x y))
/-- How many answers it draws. -/
def mdr (op : BinOp) (k : FloatKind) (x y : Nat) : Nat := if (floatBits op k x y).isSome then 0 else 1

theorem run_choose_nan {P : Program} (w : World) (k : FloatKind) (x y : Nat) :
    (choose (.nanBits k x y)).run P w = .ok ((Question.nanBits k x y).cut (w.tape w.drawn (.nanBits k x y))) (w.drewN 1) := rfl

theorem run_arith {P : Program} {w : World} {t : TypeId} {op : BinOp} (hop : op = .add ∨ op = .sub ∨ op = .mul ∨ op = .quo) (k : FloatKind) (x y : Nat) :
    (binOp op t (.float k x) (.float k y)).run P w = .ok (.float k (mop op k x y w)) (w.drewN (mdr op k x y)) := by
  cases h : floatBits op k x y with
  | some r =>
    rw [run_float_arith w op t k x y r h]
    simp [mop, mdr, h, World.drewN_zero]
  | none =>
    rcases hop with rfl | rfl | rfl | rfl <;> (simp only [floatBits] at h; simp [binOp, Op.floatArith, h, mop, mdr, floatBits, Question.forced, World.drew_is_drewN])

@[go_sem] theorem run_add {P : Program} {w : World} {t : TypeId} (k : FloatKind) (x y : Nat) : (binOp .add t (.float k x) (.float k y)).run P w = .ok (.float k (mop .add k x y w)) (w.drewN (mdr .add k x y)) := run_arith (by simp) k x y
@[go_sem] theorem run_sub {P : Program} {w : World} {t : TypeId} (k : FloatKind) (x y : Nat) : (binOp .sub t (.float k x) (.float k y)).run P w = .ok (.float k (mop .sub k x y w)) (w.drewN (mdr .sub k x y)) := run_arith (by simp) k x y
@[go_sem] theorem run_mul {P : Program} {w : World} {t : TypeId} (k : FloatKind) (x y : Nat) : (binOp .mul t (.float k x) (.float k y)).run P w = .ok (.float k (mop .mul k x y w)) (w.drewN (mdr .mul k x y)) := run_arith (by simp) k x y
@[go_sem] theorem run_quo {P : Program} {w : World} {t : TypeId} (k : FloatKind) (x y : Nat) : (binOp .quo t (.float k x) (.float k y)).run P w = .ok (.float k (mop .quo k x y w)) (w.drewN (mdr .quo k x y)) := run_arith (by simp) k x y

/-! ### Stores -/
@[go_sem] theorem run_store_f {P : Program} {w : World} (a : Addr) (m : Mode) (k : FloatKind) (b : Nat) : (store a (.float k b) m).run P w = stored P w a (.float k b) m := run_store P w a _ m rfl
@[go_sem] theorem run_store_c {P : Program} {w : World} (a : Addr) (m : Mode) (k : FloatKind) (x y : Nat) : (store a (.complex k x y) m).run P w = stored P w a (.complex k x y) m := run_store P w a _ m rfl

/-! ### What is written is never a not-a-number -/
theorem consts (k : FloatKind) : k.format.binade ≤ k.format.infRung ∧ k.format.infRung < k.format.signWeight ∧ 0 < k.format.signWeight := by
  cases k <;> decide

theorem read_word_nan (k : FloatKind) (neg : Bool) (r : Nat) (h : r < k.format.signWeight) : (k.format.read (k.format.word neg r)).isNaN = decide (k.format.infRung < r) := by
  obtain ⟨hb, _, hs⟩ := consts k
  have hmod : k.format.word neg r % k.format.signWeight = r := by
    unfold Ieee.Format.word
    cases neg
    · simpa using Nat.mod_eq_of_lt h
    · simp only [if_true, Nat.add_mod_left]; exact Nat.mod_eq_of_lt h
  unfold Ieee.Format.read
  simp only [hmod]
  by_cases h1 : r < k.format.binade
  · rw [if_pos h1]
    have : ¬ k.format.infRung < r := by omega
    simp [Ieee.Datum.isNaN, this]
  · rw [if_neg h1]
    by_cases h2 : r < k.format.infRung
    · rw [if_pos h2]
      have : ¬ k.format.infRung < r := by omega
      simp [Ieee.Datum.isNaN, this]
    · rw [if_neg h2]
      by_cases h3 : r = k.format.infRung
      · rw [if_pos h3]; simp [Ieee.Datum.isNaN, h3]
      · rw [if_neg h3]
        have : k.format.infRung < r := by omega
        simp [Ieee.Datum.isNaN, this]

theorem nearest_not_nan (k : FloatKind) (neg : Bool) (m : Nat) (p : Int) : nanB k (k.format.nearest neg m p) = false := by
  obtain ⟨hb, hi, hs⟩ := consts k
  unfold nanB Ieee.Format.nearest
  by_cases h0 : m = 0
  · rw [if_pos h0, read_word_nan k neg 0 hs]; simp
  · rw [if_neg h0, read_word_nan k neg _ (Nat.lt_of_le_of_lt (Nat.min_le_right _ _) hi)]
    simp only [decide_eq_false_iff_not, Nat.not_lt]
    exact Nat.min_le_right _ _

theorem inf_not_nan (k : FloatKind) (neg : Bool) : nanB k (k.format.word neg k.format.infRung) = false := by
  obtain ⟨hb, hi, hs⟩ := consts k
  unfold nanB
  rw [read_word_nan k neg _ hi]; simp

theorem write_not_nan {k : FloatKind} {d : Ieee.Datum} (h : d.isNaN = false) : nanB k (k.format.write d) = false := by
  cases d with
  | number s m p => exact nearest_not_nan k s m p
  | infinity s => exact inf_not_nan k s
  | nan s f => simp [Ieee.Datum.isNaN] at h

theorem sum_not_nan {x y r : Ieee.Datum} (h : x.sum y = some r) : r.isNaN = false := by
  cases x <;> cases y <;> simp [Ieee.Datum.sum] at h
  case infinity.infinity => obtain ⟨_, rfl⟩ := h; rfl
  all_goals (subst h; rfl)
theorem product_not_nan {x y r : Ieee.Datum} (h : x.product y = some r) : r.isNaN = false := by
  cases x <;> cases y <;> simp [Ieee.Datum.product] at h
  case infinity.number => obtain ⟨_, rfl⟩ := h; rfl
  case number.infinity => obtain ⟨_, rfl⟩ := h; rfl
  all_goals (subst h; rfl)
theorem quotient_not_nan {n : Nat} {x y r : Ieee.Datum} (h : x.quotient n y = some r) : r.isNaN = false := by
  cases x <;> cases y <;> simp only [Ieee.Datum.quotient] at h
  all_goals first
    | (cases h; rfl)
    | (cases h; done)
    | (split at h
       · split at h
         · cases h
         · cases h; rfl
       · cases h; rfl)

theorem floatBits_not_nan {op : BinOp} {k : FloatKind} {x y r : Nat} (h : floatBits op k x y = some r) : nanB k r = false := by
  unfold floatBits at h
  split at h
  · simp only [Ieee.Format.add, Option.map_eq_some_iff] at h; obtain ⟨d, hd, rfl⟩ := h; exact write_not_nan (sum_not_nan hd)
  · simp only [Ieee.Format.sub, Option.map_eq_some_iff] at h; obtain ⟨d, hd, rfl⟩ := h; exact write_not_nan (sum_not_nan hd)
  · simp only [Ieee.Format.mul, Option.map_eq_some_iff] at h; obtain ⟨d, hd, rfl⟩ := h; exact write_not_nan (product_not_nan hd)
  · simp only [Ieee.Format.div, Option.map_eq_some_iff] at h; obtain ⟨d, hd, rfl⟩ := h; exact write_not_nan (quotient_not_nan hd)
  · cases h

theorem isNaN_nan {d : Ieee.Datum} (h : d.isNaN = true) : ∃ s f, d = .nan s f := by
  cases d <;> simp [Ieee.Datum.isNaN] at h; exact ⟨_, _, rfl⟩
theorem floatBits_nan_left {op : BinOp} {k : FloatKind} {x y : Nat} (h : nanB k x = true) : floatBits op k x y = none := by
  obtain ⟨s, f, hd⟩ := isNaN_nan h
  unfold floatBits
  split <;> simp [Ieee.Format.add, Ieee.Format.sub, Ieee.Format.mul, Ieee.Format.div, hd, Ieee.Datum.sum, Ieee.Datum.product, Ieee.Datum.quotient]
theorem floatBits_nan_right {op : BinOp} {k : FloatKind} {x y : Nat} (h : nanB k y = true) : floatBits op k x y = none := by
  obtain ⟨s, f, hd⟩ := isNaN_nan h
  unfold floatBits
  split <;> (try rfl) <;> cases hx : k.format.read x <;> simp [Ieee.Format.add, Ieee.Format.sub, Ieee.Format.mul, Ieee.Format.div, hd, hx, Ieee.Datum.sum, Ieee.Datum.product, Ieee.Datum.quotient, Ieee.Datum.opposite]

theorem floatBits_can (op : BinOp) (k : FloatKind) (x y : Nat) : floatBits op k (can k x) (can k y) = floatBits op k x y := by
  by_cases hx : nanB k x = true
  · rw [floatBits_nan_left hx, floatBits_nan_left (by rw [nanB_can]; exact hx)]
  · rw [can_of_not (by simpa using hx)]
    by_cases hy : nanB k y = true
    · rw [floatBits_nan_right hy, floatBits_nan_right (by rw [nanB_can]; exact hy)]
    · rw [can_of_not (by simpa using hy)]

theorem cut_nan (k : FloatKind) (x y t : Nat) : nanB k ((Question.nanBits k x y).cut t) = true := by
  have key : ∀ (s r : Nat), s < 2 → k.format.infRung < r → r < k.format.signWeight → nanB k (s * k.format.signWeight + r) = true := by
    intro s r hs h1 h2
    have : s * k.format.signWeight + r = k.format.word (s == 1) r := by
      rcases (by omega : s = 0 ∨ s = 1) with rfl | rfl <;> simp [Ieee.Format.word]
    unfold nanB
    rw [this, read_word_nan k _ _ h2]; simpa using h1
  have i32 : FloatKind.f32.format.infRung = 2139095040 := by decide
  have s32 : FloatKind.f32.format.signWeight = 2147483648 := by decide
  have i64 : FloatKind.f64.format.infRung = 9218868437227405312 := by decide
  have s64 : FloatKind.f64.format.signWeight = 9223372036854775808 := by decide
  cases k with
  | f32 =>
    have h := key (t % 2) (2139095040 + 1 + (t / 2) % (2 ^ 23 - 1)) (by omega) (by rw [i32]; omega) (by rw [s32]; omega)
    have e : (Question.nanBits FloatKind.f32 x y).cut t = t % 2 * FloatKind.f32.format.signWeight + (2139095040 + 1 + (t / 2) % (2 ^ 23 - 1)) := by
      rw [s32]; simp only [Question.cut]; omega
    rw [e]; exact h
  | f64 =>
    have h := key (t % 2) (9218868437227405312 + 1 + (t / 2) % (2 ^ 52 - 1)) (by omega) (by rw [i64]; omega) (by rw [s64]; omega)
    have e : (Question.nanBits FloatKind.f64 x y).cut t = t % 2 * FloatKind.f64.format.signWeight + (9218868437227405312 + 1 + (t / 2) % (2 ^ 52 - 1)) := by
      rw [s64]; simp only [Question.cut]; omega
    rw [e]; exact h

/-- The bridge: what the model gives, its not-a-numbers made one, is the plain function of the operands so treated. -/
theorem can_mop (op : BinOp) (k : FloatKind) (x y : Nat) (w : World) : can k (mop op k x y w) = fop op k (can k x) (can k y) := by
  unfold mop fop
  rw [floatBits_can]
  cases h : floatBits op k x y with
  | some r => simp only [Option.getD_some]; exact can_of_not (floatBits_not_nan h)
  | none => simp only [Option.getD_none]; exact can_of_nan (cut_nan k x y _)

/-! ### Comparisons -/
theorem order_can (k : FloatKind) (x y : Nat) : k.format.order (can k x) (can k y) = k.format.order x y := by
  unfold Ieee.Format.order
  have hn : ∀ d : Ieee.Datum, ∀ e : Ieee.Datum, d.isNaN = true → d.order e = none := by
    intro d e h; obtain ⟨s, f, rfl⟩ := isNaN_nan h; rfl
  have hn2 : ∀ d : Ieee.Datum, ∀ e : Ieee.Datum, e.isNaN = true → d.order e = none := by
    intro d e h; obtain ⟨s, f, rfl⟩ := isNaN_nan h; cases d <;> rfl
  by_cases hx : nanB k x = true
  · rw [hn _ _ hx, hn _ _ (by rw [← nanB, nanB_can]; exact hx)]
  · rw [can_of_not (by simpa using hx)]
    by_cases hy : nanB k y = true
    · rw [hn2 _ _ hy, hn2 _ _ (by rw [← nanB, nanB_can]; exact hy)]
    · rw [can_of_not (by simpa using hy)]

/-! ### The opposite -/
@[go_sem] theorem unary_neg_float (k : FloatKind) (b : Nat) : Op.unary .neg (.float k b) = pure (.float k (Op.negFloat k b)) := rfl
@[go_sem] theorem unary_neg_complex (k : FloatKind) (a b : Nat) : Op.unary .neg (.complex k a b) = pure (.complex k (Op.negFloat k a) (Op.negFloat k b)) := rfl
@[go_sem] theorem alloc_drewN (w : World) (n : Nat) (o : Obj) : (w.drewN n).alloc o = (w.alloc o).drewN n := rfl
@[go_sem] theorem setCell_drewN (w : World) (n : Nat) (a : Addr) (v : Value) : (w.drewN n).setCell a v = (w.setCell a v).drewN n := rfl
theorem neg_mod (k : FloatKind) (b : Nat) : Op.negFloat k b % k.format.signWeight = b % k.format.signWeight := by
  show (b ^^^ 2 ^ (k.format.exponentBits + k.format.fractionBits)) % 2 ^ (k.format.exponentBits + k.format.fractionBits) = b % 2 ^ (k.format.exponentBits + k.format.fractionBits)
  rw [Nat.xor_mod_two_pow, Nat.mod_self, Nat.xor_zero]
theorem nanB_of_mod (k : FloatKind) (a b : Nat) (h : a % k.format.signWeight = b % k.format.signWeight) : nanB k a = nanB k b := by
  unfold nanB Ieee.Format.read
  simp only [h]
  repeat' split
  all_goals rfl
theorem nanB_neg (k : FloatKind) (b : Nat) : nanB k (Op.negFloat k b) = nanB k b := nanB_of_mod k _ _ (neg_mod k b)
/-- The opposite of a number, the not-a-number its own. -/
def fnegK (k : FloatKind) (x : Nat) : Nat := can k (Op.negFloat k x)
theorem can_neg (k : FloatKind) (b : Nat) : can k (Op.negFloat k b) = fnegK k (can k b) := by
  unfold fnegK
  cases h : nanB k b
  · rw [can_of_not h]
  · rw [can_of_nan (by rw [nanB_neg]; exact h), can_of_nan (by rw [nanB_neg, nanB_can]; exact h)]

/-! ### Conversions -/
/-- What the model gives of a float of another kind; 'none' of a number too great for it. -/
def fcv (s k : FloatKind) (b : Nat) : Nat := if nanB s b then qnan k else k.encode (s.decode b)
/-- Does the conversion give just one number? -/
def fits (s k : FloatKind) (b : Nat) : Bool :=
  match s.decode b with
  | .number g m e => !(k.decode (k.encode (.number g m e))).isInfinity
  | _ => true
def mcv (s k : FloatKind) (b : Nat) (w : World) : Nat :=
  if nanB s b then (Question.nanConv k b).cut (w.tape w.drawn (.nanConv k b))
  else if fits s k b then k.encode (s.decode b) else (Question.floatToFloat b).cut (w.tape w.drawn (.floatToFloat b))
def mcd (s k : FloatKind) (b : Nat) : Nat := if nanB s b then 1 else if fits s k b then 0 else 1

theorem run_fcv {P : Program} {w : World} {src dst : TypeId} (s k : FloatKind) (b : Nat) (hne : s ≠ k) (hs : (P.underlying src).isSome = true) (hd : P.underlying dst = some (.float k)) :
    (convert src dst (.float s b)).run P w = .ok (.float k (mcv s k b w)) (w.drewN (mcd s k b)) := by
  obtain ⟨u, hs'⟩ := Option.isSome_iff_exists.1 hs
  have hc : (convert src dst (.float s b)).run P w = (Conv.floatToFloat s b k).run P w := by
    cases u <;> simp [convert, run_underlying hs', run_underlying hd]
  rw [hc]
  unfold Conv.floatToFloat
  rw [if_neg hne]
  have hdec : FloatKind.decode s b = s.format.read b := rfl
  cases he : s.decode b with
  | nan g f =>
    have hn : nanB s b = true := by unfold nanB; rw [← hdec, he]; rfl
    simp [mcv, mcd, hn, Question.forced, World.drew_is_drewN]
  | infinity g =>
    have hn : nanB s b = false := by unfold nanB; rw [← hdec, he]; rfl
    simp [mcv, mcd, hn, fits, he, World.drewN_zero]
  | number g m e =>
    have hn : nanB s b = false := by unfold nanB; rw [← hdec, he]; rfl
    simp only [mcv, mcd, hn, fits, he]
    cases hf : (k.decode (k.encode (.number g m e))).isInfinity
    · simp [World.drewN_zero]
    · simp [Question.forced, World.drew_is_drewN]

@[go_sem] theorem run_widen {P : Program} {w : World} {src dst : TypeId} (b : Nat) (hs : (P.underlying src).isSome = true) (hd : P.underlying dst = some (.float .f64)) :
    (convert src dst (.float .f32 b)).run P w = .ok (.float .f64 (mcv .f32 .f64 b w)) (w.drewN (mcd .f32 .f64 b)) := run_fcv _ _ b (by decide) hs hd
@[go_sem] theorem run_narrow {P : Program} {w : World} {src dst : TypeId} (b : Nat) (hs : (P.underlying src).isSome = true) (hd : P.underlying dst = some (.float .f32)) :
    (convert src dst (.float .f64 b)).run P w = .ok (.float .f32 (mcv .f64 .f32 b w)) (w.drewN (mcd .f64 .f32 b)) := run_fcv _ _ b (by decide) hs hd

theorem cut_conv_nan (k : FloatKind) (b t : Nat) : nanB k ((Question.nanConv k b).cut t) = true := by
  have := cut_nan k b b t
  cases k <;> exact this

theorem fcv_can (s k : FloatKind) (b : Nat) : fcv s k (can s b) = fcv s k b := by
  unfold fcv
  by_cases h : nanB s b = true
  · rw [if_pos h, if_pos (by rw [nanB_can]; exact h)]
  · rw [can_of_not (by simpa using h)]
theorem fits_can (s k : FloatKind) (b : Nat) : fits s k (can s b) = fits s k b := by
  by_cases h : nanB s b = true
  · have h' : nanB s (can s b) = true := by rw [nanB_can]; exact h
    obtain ⟨g, f, e⟩ := isNaN_nan h
    obtain ⟨g', f', e'⟩ := isNaN_nan h'
    unfold fits FloatKind.decode
    rw [e, e']
  · rw [can_of_not (by simpa using h)]

theorem can_mcv (s k : FloatKind) (b : Nat) (w : World) (hf : fits s k b = true) : can k (mcv s k b w) = fcv s k (can s b) := by
  rw [fcv_can]
  unfold mcv fcv
  by_cases h : nanB s b = true
  · rw [if_pos h, if_pos h]; exact can_of_nan (cut_conv_nan k b _)
  · rw [if_neg h, if_neg h, if_pos hf]
    exact can_of_not (write_not_nan (show (s.format.read b).isNaN = false by simpa [nanB] using h))

/-! ### The words of a number: below infinity where its last place is not too great -/
theorem toNat_max (x y : Int) : (max x y).toNat = max x.toNat y.toNat := by omega

theorem shiftRight_lt_of_log (n d : Nat) : n / (1 <<< min d (n.log2 + 2)) ≤ n / 2 ^ (min d (n.log2 + 2)) := by
  rw [Nat.one_shiftLeft]; exact Nat.le_refl _

theorem cut_le (neg : Bool) (n d : Nat) : Ieee.Toward.even.cut neg n d ≤ n / 2 ^ (min d (n.log2 + 2)) + 1 := by
  unfold Ieee.Toward.cut
  rw [Nat.one_shiftLeft]
  simp only
  have : ∀ b : Bool, b.toNat ≤ 1 := by intro b; cases b <;> decide
  exact Nat.add_le_add_left (this _) _

section numbers
open Ieee

/-- The part of a number that is kept has at most one digit more than the fraction field, and is at most a power of two. -/
theorem kept_le (f : Format) (neg : Bool) (m : Nat) (p last : Int) (hl : p + m.log2 - f.fractionBits ≤ last) :
    Toward.even.cut neg (m <<< (p - last).toNat) (last - p).toNat ≤ 2 ^ (f.fractionBits + 1) + 1 := by
  refine Nat.le_trans (cut_le _ _ _) (Nat.add_le_add_right ?_ 1)
  have hlt : m < 2 ^ (m.log2 + 1) := Nat.lt_log2_self
  by_cases h : last ≤ p
  · -- nothing is dropped
    have h0 : (last - p).toNat = 0 := by omega
    rw [h0]
    simp only [Nat.zero_le, Nat.min_eq_left, Nat.pow_zero, Nat.div_one]
    rw [Nat.shiftLeft_eq]
    have hle : (p - last).toNat + (m.log2 + 1) ≤ f.fractionBits + 1 := by omega
    calc m * 2 ^ (p - last).toNat ≤ 2 ^ (m.log2 + 1) * 2 ^ (p - last).toNat := Nat.mul_le_mul_right _ (Nat.le_of_lt hlt)
      _ = 2 ^ (m.log2 + 1 + (p - last).toNat) := by rw [← Nat.pow_add]
      _ ≤ 2 ^ (f.fractionBits + 1) := Nat.pow_le_pow_right (by omega) (by omega)
  · have h0 : (p - last).toNat = 0 := by omega
    rw [h0, Nat.shiftLeft_zero]
    have hd : m.log2 ≤ f.fractionBits + (last - p).toNat := by omega
    rcases Nat.le_total (last - p).toNat (m.log2 + 2) with h2 | h2
    · rw [Nat.min_eq_left h2]
      apply Nat.le_of_lt
      rw [Nat.div_lt_iff_lt_mul (Nat.two_pow_pos _), ← Nat.pow_add]
      exact Nat.lt_of_lt_of_le hlt (Nat.pow_le_pow_right (by omega) (by omega))
    · rw [Nat.min_eq_right h2]
      have : m / 2 ^ (m.log2 + 2) = 0 := by
        apply Nat.div_eq_of_lt
        exact Nat.lt_of_lt_of_le hlt (Nat.pow_le_pow_right (by omega) (by omega))
      rw [this]; exact Nat.zero_le _

theorem rung_lt (f : Format) (neg : Bool) (m : Nat) (p : Int) (B : Nat) (hm : m ≠ 0)
    (hb : ((max (p + m.log2 - f.fractionBits) f.leastPlace) - f.leastPlace).toNat ≤ B) (hB : B * f.binade + 2 ^ (f.fractionBits + 1) + 1 < f.infRung) :
    f.nearest neg m p = f.word neg ((max (p + m.log2 - f.fractionBits) f.leastPlace - f.leastPlace).toNat * f.binade + Toward.even.cut neg (m <<< (p - max (p + m.log2 - f.fractionBits) f.leastPlace).toNat) (max (p + m.log2 - f.fractionBits) f.leastPlace - p).toNat) ∧
    (max (p + m.log2 - f.fractionBits) f.leastPlace - f.leastPlace).toNat * f.binade + Toward.even.cut neg (m <<< (p - max (p + m.log2 - f.fractionBits) f.leastPlace).toNat) (max (p + m.log2 - f.fractionBits) f.leastPlace - p).toNat < f.infRung := by
  have hk := kept_le f neg m p (max (p + m.log2 - f.fractionBits) f.leastPlace) (Int.le_max_left _ _)
  have h1 : (max (p + m.log2 - f.fractionBits) f.leastPlace - f.leastPlace).toNat * f.binade ≤ B * f.binade := Nat.mul_le_mul_right _ hb
  have h2 : (max (p + m.log2 - f.fractionBits) f.leastPlace - f.leastPlace).toNat * f.binade + Toward.even.cut neg (m <<< (p - max (p + m.log2 - f.fractionBits) f.leastPlace).toNat) (max (p + m.log2 - f.fractionBits) f.leastPlace - p).toNat < f.infRung := by omega
  refine ⟨?_, h2⟩
  unfold Format.nearest
  rw [if_neg hm]
  simp only
  rw [Nat.min_eq_left (Nat.le_of_lt h2)]

theorem read_word (k : FloatKind) (neg : Bool) (r : Nat) (h : r < k.format.infRung) :
    k.format.read (k.format.word neg r) = if r < k.format.binade then .number neg r k.format.leastPlace else .number neg (k.format.binade + r % k.format.binade) (k.format.leastPlace + (r / k.format.binade - 1 : Nat)) := by
  obtain ⟨hb, hi, hs⟩ := consts k
  have hr : r < k.format.signWeight := by omega
  have hmod : k.format.word neg r % k.format.signWeight = r := by
    unfold Format.word
    cases neg
    · simpa using Nat.mod_eq_of_lt hr
    · simp only [if_true, Nat.add_mod_left]; exact Nat.mod_eq_of_lt hr
  have hdiv : (k.format.word neg r / k.format.signWeight % 2 == 1) = neg := by
    unfold Format.word
    cases neg
    · simp [Nat.div_eq_of_lt hr]
    · simp only [if_true]; rw [Nat.add_div_left _ hs, Nat.div_eq_of_lt hr]; rfl
  unfold Format.read
  simp only [hmod, hdiv]
  rw [if_pos h]

theorem not_inf_of_rung (k : FloatKind) (neg : Bool) (r : Nat) (h : r < k.format.infRung) : (k.format.read (k.format.word neg r)).isInfinity = false := by
  rw [read_word k neg r h]; split <;> rfl

theorem read_number (k : FloatKind) (b : Nat) {g : Bool} {m : Nat} {e : Int} (h : k.format.read b = .number g m e) :
    m < 2 ^ (k.format.fractionBits + 1) ∧ k.format.leastPlace ≤ e ∧ e ≤ k.format.leastPlace + (2 ^ k.format.exponentBits - 3 : Nat) := by
  have hbin : k.format.binade = 2 ^ k.format.fractionBits := rfl
  have hb0 : 0 < k.format.binade := Nat.two_pow_pos _
  have hp : 2 ^ (k.format.fractionBits + 1) = 2 * k.format.binade := by rw [hbin, Nat.pow_succ]; omega
  unfold Format.read at h
  simp only at h
  split at h
  · rename_i h1
    cases h
    refine ⟨by omega, by omega, by omega⟩
  · rename_i h1
    split at h
    · rename_i h2
      cases h
      have hm := Nat.mod_lt (b % k.format.signWeight) hb0
      refine ⟨by omega, by omega, ?_⟩
      have hq : b % k.format.signWeight / k.format.binade < 2 ^ k.format.exponentBits - 1 := by
        rw [Nat.div_lt_iff_lt_mul hb0]; exact h2
      omega
    · split at h <;> cases h

theorem log2_lt {m n : Nat} (h : m < 2 ^ (n + 1)) : m.log2 ≤ n := by
  rcases Nat.eq_zero_or_pos m with rfl | h0
  · simp
  · have := (Nat.log2_lt (by omega)).2 h; omega

theorem fits_widen (b : Nat) : fits .f32 .f64 b = true := by
  unfold fits
  cases hd : FloatKind.f32.decode b with
  | nan g f => rfl
  | infinity g => rfl
  | number g m e =>
    simp only [Bool.not_eq_true']
    have h := read_number .f32 b (g := g) (m := m) (e := e) hd
    rcases Nat.eq_zero_or_pos m with rfl | h0
    · show (FloatKind.f64.format.read (FloatKind.f64.format.nearest g 0 e)).isInfinity = false
      unfold Format.nearest; rw [if_pos rfl]; exact not_inf_of_rung .f64 g 0 (by decide)
    · show (FloatKind.f64.format.read (FloatKind.f64.format.nearest g m e)).isInfinity = false
      have hl := log2_lt h.1
      have l32 : FloatKind.f32.format.leastPlace = -149 := by decide
      have l64 : FloatKind.f64.format.leastPlace = -1074 := by decide
      have f32 : FloatKind.f32.format.fractionBits = 23 := rfl
      have f64 : FloatKind.f64.format.fractionBits = 52 := rfl
      have x32 : FloatKind.f32.format.exponentBits = 8 := rfl
      rw [l32, x32] at h
      rw [f32] at hl
      obtain ⟨h1, h2⟩ := rung_lt FloatKind.f64.format g m e 1400 (by omega) (by rw [l64, f64]; omega) (by decide)
      rw [h1]; exact not_inf_of_rung .f64 g _ h2

/-- Where the number that is written lies, so does what is read of the word: its logarithm is at most one more. -/
theorem read_nearest (k : FloatKind) (neg : Bool) (m : Nat) (p : Int) (B : Nat) (hm : m ≠ 0)
    (hb : ((max (p + m.log2 - k.format.fractionBits) k.format.leastPlace) - k.format.leastPlace).toNat ≤ B) (hB : B * k.format.binade + 2 ^ (k.format.fractionBits + 1) + 1 < k.format.infRung) :
    ∃ m' e, k.format.read (k.format.nearest neg m p) = .number neg m' e ∧ m' < 2 ^ (k.format.fractionBits + 1) ∧ e ≤ k.format.leastPlace + (B + 2) := by
  obtain ⟨h1, h2⟩ := rung_lt k.format neg m p B hm hb hB
  have hk := kept_le k.format neg m p (max (p + m.log2 - k.format.fractionBits) k.format.leastPlace) (Int.le_max_left _ _)
  have h3 : (max (p + m.log2 - k.format.fractionBits) k.format.leastPlace - k.format.leastPlace).toNat * k.format.binade ≤ B * k.format.binade := Nat.mul_le_mul_right _ hb
  have hsum := Nat.add_le_add h3 hk
  rw [h1]
  generalize hr : (max (p + m.log2 - k.format.fractionBits) k.format.leastPlace - k.format.leastPlace).toNat * k.format.binade + Toward.even.cut neg (m <<< (p - max (p + m.log2 - k.format.fractionBits) k.format.leastPlace).toNat) (max (p + m.log2 - k.format.fractionBits) k.format.leastPlace - p).toNat = r at *
  have hbin : k.format.binade = 2 ^ k.format.fractionBits := rfl
  have hb0 : 1 < k.format.binade := by cases k <;> decide
  have hp : 2 ^ (k.format.fractionBits + 1) = 2 * k.format.binade := by rw [hbin, Nat.pow_succ]; omega
  have hq : r / k.format.binade ≤ B + 3 := by
    apply Nat.le_of_lt_succ
    rw [Nat.div_lt_iff_lt_mul (by omega)]
    have : (B + 4) * k.format.binade = B * k.format.binade + 4 * k.format.binade := by rw [Nat.add_mul]
    show r < (B + 4) * k.format.binade
    omega
  rw [read_word k neg r h2]
  have hmod := Nat.mod_lt r (show 0 < k.format.binade by omega)
  split
  · exact ⟨_, _, rfl, by omega, by omega⟩
  · exact ⟨_, _, rfl, by omega, by omega⟩

theorem rootFrom_le (n : Nat) : ∀ (t r : Nat), r * r ≤ n → Datum.rootFrom n t r * Datum.rootFrom n t r ≤ n
  | 0, r, h => h
  | t + 1, r, h => by
    unfold Datum.rootFrom
    simp only
    split
    · exact rootFrom_le n t _ ‹_›
    · exact rootFrom_le n t _ h

/-- The square root of a single number, as a double one, is no number too great for a single one. -/
theorem fits_root (x r : Nat) (h : FloatKind.f64.format.sqrt (fcv .f32 .f64 x) = some r) : fits .f64 .f32 r = true := by
  have l32 : FloatKind.f32.format.leastPlace = -149 := by decide
  have l64 : FloatKind.f64.format.leastPlace = -1074 := by decide
  have f32 : FloatKind.f32.format.fractionBits = 23 := rfl
  have f64 : FloatKind.f64.format.fractionBits = 52 := rfl
  have x32 : FloatKind.f32.format.exponentBits = 8 := rfl
  unfold Format.sqrt at h
  rw [Option.map_eq_some_iff] at h
  obtain ⟨d, hd, rfl⟩ := h
  have hx : ∀ g m e, FloatKind.f64.format.read (fcv .f32 .f64 x) = .number g m e → m = 0 ∨ (m < 2 ^ 53 ∧ e ≤ 80) := by
    intro g m e hr
    unfold fcv at hr
    split at hr
    · have := nanB_qnan .f64
      unfold nanB at this; rw [hr] at this; simp [Datum.isNaN] at this
    · cases hdx : FloatKind.f32.decode x with
      | nan g f => rename_i hn; exact absurd (show nanB .f32 x = true by unfold nanB; show (FloatKind.f32.decode x).isNaN = true; rw [hdx]; rfl) hn
      | infinity s =>
        rw [hdx] at hr
        have hi := read_word_nan .f64 s FloatKind.f64.format.infRung (by decide)
        have : FloatKind.f64.format.read (FloatKind.f64.format.word s FloatKind.f64.format.infRung) = .infinity s := by cases s <;> decide +kernel
        have hr' : FloatKind.f64.format.read (FloatKind.f64.format.word s FloatKind.f64.format.infRung) = .number g m e := hr
        rw [this] at hr'; cases hr'
      | number s m0 e0 =>
        have h0 := read_number .f32 x (g := s) (m := m0) (e := e0) hdx
        rw [hdx] at hr
        have hr' : FloatKind.f64.format.read (FloatKind.f64.format.nearest s m0 e0) = .number g m e := hr
        rcases Nat.eq_zero_or_pos m0 with rfl | hpos
        · left
          unfold Format.nearest at hr'
          rw [if_pos rfl, read_word .f64 s 0 (by decide)] at hr'
          rw [if_pos (by decide)] at hr'
          cases hr'; rfl
        · right
          have hl := log2_lt h0.1
          rw [l32, x32] at h0
          rw [f32] at hl
          obtain ⟨m', e', h1, h2, h3⟩ := read_nearest .f64 s m0 e0 1150 (by omega) (by rw [l64, f64]; omega) (by decide)
          rw [h1] at hr'
          cases hr'
          rw [l64] at h3
          rw [f64] at h2
          exact ⟨h2, by omega⟩
  cases hr : FloatKind.f64.format.read (fcv .f32 .f64 x) with
  | nan g f => rw [hr] at hd; cases hd
  | infinity g =>
    rw [hr] at hd
    simp only [Datum.root] at hd
    split at hd
    · cases hd
    · cases hd
      cases g
      · decide +kernel
      · contradiction
  | number g m e =>
    rw [hr] at hd
    simp only [Datum.root] at hd
    split at hd
    · rename_i hm0
      subst hm0
      cases hd
      have : FloatKind.f64.format.write (.number g 0 e) = FloatKind.f64.format.word g 0 := by
        show FloatKind.f64.format.nearest g 0 e = _
        unfold Format.nearest; rw [if_pos rfl]
      rw [this]
      cases g <;> decide +kernel
    · rename_i hm0
      split at hd
      · cases hd
      · rcases hx g m e hr with h0 | ⟨h1, h2⟩
        · exact absurd h0 hm0
        · cases hd
          have hl := log2_lt h1
          rw [f64]
          generalize hmore : 2 * (52 + 2) - m.log2 + ((e - (2 * (52 + 2) - m.log2 : Nat)) % 2).toNat = more
          have hmb : more + m.log2 ≤ 110 := by omega
          have hroot := rootFrom_le (m <<< more) ((m <<< more).log2 / 2 + 1) 0 (by simp)
          generalize hw : Datum.rootFrom (m <<< more) ((m <<< more).log2 / 2 + 1) 0 = whole at *
          have hn : m <<< more < 2 ^ 112 := by
            rw [Nat.shiftLeft_eq]
            have : m < 2 ^ (m.log2 + 1) := Nat.lt_log2_self
            calc m * 2 ^ more < 2 ^ (m.log2 + 1) * 2 ^ more := Nat.mul_lt_mul_of_pos_right this (Nat.two_pow_pos _)
              _ = 2 ^ (m.log2 + 1 + more) := by rw [← Nat.pow_add]
              _ ≤ 2 ^ 112 := Nat.pow_le_pow_right (by omega) (by omega)
          have hwl : whole < 2 ^ 56 := by
            rcases Nat.lt_or_ge whole (2 ^ 56) with h | h
            · exact h
            · exfalso
              have : 2 ^ 56 * 2 ^ 56 ≤ whole * whole := Nat.mul_le_mul h h
              omega
          have hmag : 2 * whole + (whole * whole != m <<< more).toNat < 2 ^ 58 := by
            have : (whole * whole != m <<< more).toNat ≤ 1 := Bool.toNat_le _
            omega
          have hmore2 : more ≤ 110 := by omega
          generalize 2 * whole + (whole * whole != m <<< more).toNat = mag at *
          have hp : (e - more) / 2 - 1 ≤ 40 := by omega
          generalize (e - more) / 2 - 1 = pl at *
          show fits .f64 .f32 (FloatKind.f64.format.nearest false mag pl) = true
          unfold fits
          rcases Nat.eq_zero_or_pos mag with rfl | hpos
          · have : FloatKind.f64.format.nearest false 0 pl = 0 := by unfold Format.nearest; rw [if_pos rfl]; rfl
            rw [this]; decide +kernel
          · have hlm := log2_lt (show mag < 2 ^ (57 + 1) from hmag)
            obtain ⟨m', e', h3, h4, h5⟩ := read_nearest .f64 false mag pl 1130 (by omega) (by rw [l64, f64]; omega) (by decide)
            rw [f64] at h4
            rw [l64] at h5
            show (match FloatKind.f64.format.read (FloatKind.f64.format.nearest false mag pl) with | .number g m e => !(FloatKind.f32.decode (FloatKind.f32.encode (.number g m e))).isInfinity | _ => true) = true
            rw [h3]
            simp only [Bool.not_eq_true']
            show (FloatKind.f32.format.read (FloatKind.f32.format.nearest false m' e')).isInfinity = false
            rcases Nat.eq_zero_or_pos m' with rfl | hpos'
            · unfold Format.nearest; rw [if_pos rfl]; exact not_inf_of_rung .f32 false 0 (by decide)
            · have hl' := log2_lt h4
              obtain ⟨h6, h7⟩ := rung_lt FloatKind.f32.format false m' e' 240 (by omega) (by rw [l32, f32]; omega) (by decide)
              rw [h6]; exact not_inf_of_rung .f32 false _ h7
end numbers

theorem can_widen {a b : Nat} {w w' : World} (h : can .f32 a = can .f32 b) : can .f64 (mcv .f32 .f64 a w) = can .f64 (mcv .f32 .f64 b w') := by
  rw [can_mcv _ _ _ _ (fits_widen a), can_mcv _ _ _ _ (fits_widen b), h]
end Go.Fl

namespace Go.Fl

/-- The bits b stand for x. -/
def F32 (b x : Nat) : Prop := can .f32 b = x
theorem F32.mk (b : Nat) : F32 b (can .f32 b) := rfl
theorem F32.op {a b x y : Nat} {w : World} (op : BinOp) (ha : F32 a x) (hb : F32 b y) : F32 (mop op .f32 a b w) (fop op .f32 x y) := by
  unfold F32 at *; rw [can_mop, ha, hb]
theorem F32.order {a b x y : Nat} (ha : F32 a x) (hb : F32 b y) : FloatKind.f32.format.order a b = FloatKind.f32.format.order x y := by
  unfold F32 at *; rw [← ha, ← hb, order_can]
theorem F32.lit {b : Nat} (h : nanB .f32 b = false) : F32 b b := can_of_not h

def fadd (x y : Nat) : Nat := fop .add .f32 x y
def fsub (x y : Nat) : Nat := fop .sub .f32 x y
def fmul (x y : Nat) : Nat := fop .mul .f32 x y
def fdiv (x y : Nat) : Nat := fop .quo .f32 x y
def flt (x y : Nat) : Bool := FloatKind.f32.format.order x y == some .lt
def fgt (x y : Nat) : Bool := FloatKind.f32.format.order x y == some .gt
def feq (x y : Nat) : Bool := FloatKind.f32.format.order x y == some .eq
def fle (x y : Nat) : Bool := FloatKind.f32.format.order x y == some .lt || FloatKind.f32.format.order x y == some .eq
def fge (x y : Nat) : Bool := FloatKind.f32.format.order x y == some .gt || FloatKind.f32.format.order x y == some .eq

/-- finite -/
def fin (x : Nat) : Bool := feq (fsub x x) 0
def above (x : Nat) : Bool := fin x && fgt x 0
def least (x : Nat) : Bool := fin x && fge x 0

/-- a number, or zero if it is not finite -/
def ifFin (x : Nat) : Nat := if fin x then x else 0
theorem F32.zero : F32 0 0 := F32.lit (by decide +kernel)
theorem F32.ifFin_yes {b : Nat} (h : fin (can .f32 b) = true) : F32 b (ifFin (can .f32 b)) := by unfold ifFin; rw [if_pos h]; rfl
theorem F32.ifFin_no {b : Nat} (h : fin (can .f32 b) = false) : F32 0 (ifFin (can .f32 b)) := by unfold ifFin; rw [if_neg (by rw [h]; decide)]; exact F32.zero
theorem F32.add {a b x y : Nat} {w : World} (ha : F32 a x) (hb : F32 b y) : F32 (mop .add .f32 a b w) (fadd x y) := F32.op _ ha hb
theorem F32.sub {a b x y : Nat} {w : World} (ha : F32 a x) (hb : F32 b y) : F32 (mop .sub .f32 a b w) (fsub x y) := F32.op _ ha hb
theorem F32.mul {a b x y : Nat} {w : World} (ha : F32 a x) (hb : F32 b y) : F32 (mop .mul .f32 a b w) (fmul x y) := F32.op _ ha hb
theorem F32.div {a b x y : Nat} {w : World} (ha : F32 a x) (hb : F32 b y) : F32 (mop .quo .f32 a b w) (fdiv x y) := F32.op _ ha hb

theorem F32.neg {a x : Nat} (ha : F32 a x) : F32 (Op.negFloat .f32 a) (fnegK .f32 x) := by unfold F32 at *; rw [can_neg, ha]
theorem F32.lt {a b x y : Nat} (ha : F32 a x) (hb : F32 b y) : (FloatKind.f32.format.order a b == some .lt) = flt x y := by rw [flt, F32.order ha hb]
theorem F32.gt {a b x y : Nat} (ha : F32 a x) (hb : F32 b y) : (FloatKind.f32.format.order a b == some .gt) = fgt x y := by rw [fgt, F32.order ha hb]
theorem F32.eq {a b x y : Nat} (ha : F32 a x) (hb : F32 b y) : (FloatKind.f32.format.order a b == some .eq) = feq x y := by rw [feq, F32.order ha hb]
theorem F32.le {a b x y : Nat} (ha : F32 a x) (hb : F32 b y) : (FloatKind.f32.format.order a b == some .lt || FloatKind.f32.format.order a b == some .eq) = fle x y := by rw [fle, F32.order ha hb]
theorem F32.ge {a b x y : Nat} (ha : F32 a x) (hb : F32 b y) : (FloatKind.f32.format.order a b == some .gt || FloatKind.f32.format.order a b == some .eq) = fge x y := by rw [fge, F32.order ha hb]
theorem F32.ne {a b x y : Nat} (ha : F32 a x) (hb : F32 b y) : (FloatKind.f32.format.order a b != some .eq) = !feq x y := by rw [feq, F32.order ha hb]; rfl

/-- the first place where p holds -/
def idx {α : Type} (p : α → Bool) (xs : List α) : Int := if xs.any p then (xs.findIdx p : Int) else -1
theorem idx_none {α : Type} {p : α → Bool} {xs : List α} (h : xs.any p = false) : idx p xs = -1 := by simp [idx, h]
theorem idx_some {α : Type} {p : α → Bool} {xs : List α} {k : Nat} (hk : k < xs.length) (hn : (xs.take k).any p = false) (hp : p xs[k] = true) : idx p xs = k := by
  have h1 : xs.any p = true := List.any_eq_true.2 ⟨xs[k], List.getElem_mem hk, hp⟩
  have h2 : xs.findIdx p = k := by
    rw [List.findIdx_eq hk]
    refine ⟨hp, fun j hj => ?_⟩
    have := List.any_eq_false.1 hn xs[j] (by rw [List.mem_take_iff_getElem]; exact ⟨j, by omega, rfl⟩)
    simpa using this
  simp [idx, h1, h2]
theorem any_snoc {α : Type} {p : α → Bool} {xs : List α} {k : Nat} (hk : k < xs.length) (hn : (xs.take k).any p = false) (hp : p xs[k] = false) : (xs.take (k + 1)).any p = false := by
  rw [List.take_succ_eq_append_getElem hk, List.any_append, hn]; simp [hp]
theorem idx_ge {α : Type} (p : α → Bool) (xs : List α) : (decide (0 ≤ idx p xs)) = xs.any p := by
  unfold idx; split <;> simp_all

theorem ret_bool {a b : Bool} (h : a = b) : Ending.returned (.bool a) = .returned (.bool b) := by rw [h]
theorem ret_int {k : IntKind} {a b : Int} (h : a = b) : Ending.returned (.int k a) = .returned (.int k b) := by rw [h]
theorem ret_float {k : FloatKind} {a b : Nat} (h : a = b) : Ending.returned (.float k a) = .returned (.float k b) := by rw [h]

/-- An operation on floats in a walk: its result is a new name of which one fact is known. -/
theorem wp_f {P : Program} {o : Oper} {a : Act} {w : World} {K : Act → World → Prop} {Q : Exit → Act → World → Prop} {op : BinOp} {t yt : TypeId} {x y : Operand} {u v : Nat}
    (ho : o.op = .binOp op t x y yt) (hx : a.eval x = .float .f32 u) (hy : a.eval y = .float .f32 v) (hop : op = .add ∨ op = .sub ∨ op = .mul ∨ op = .quo)
    (h : ∀ r n, F32 r (fop op .f32 (can .f32 u) (can .f32 v)) → K (a.put o.dst (.float .f32 r)) (w.drewN n)) : o.wp P a w K Q := by
  have e : (execOp a.eval o).run P w = .ok (.value (.float .f32 (mop op .f32 u v w))) (w.drewN (mdr op .f32 u v)) := by
    have hr := run_arith (P := P) (w := w) (t := t) hop .f32 u v
    have hg : (eqGuard op t x y (.float .f32 u) (.float .f32 v)).run P w = .ok () w := by
      unfold eqGuard
      rcases hop with rfl | rfl | rfl | rfl <;> rfl
    unfold execOp
    rw [ho]
    simp only [hx, hy]
    simp [hg, hr]
  unfold Oper.wp
  rw [e]
  exact h _ _ (F32.op op (F32.mk u) (F32.mk v))

theorem wpList_f {P : Program} {ops rest : List Oper} {o : Oper} {a : Act} {w : World} {Q : Exit → Act → World → Prop} {op : BinOp} {t yt : TypeId} {x y : Operand} {u v : Nat}
    (hw : Region.wanted o (yielded ops.toArray a.tmps) = true)
    (ho : o.op = .binOp op t x y yt) (hx : a.eval x = .float .f32 u) (hy : a.eval y = .float .f32 v) (hop : op = .add ∨ op = .sub ∨ op = .mul ∨ op = .quo)
    (h : ∀ r n, F32 r (fop op .f32 (can .f32 u) (can .f32 v)) → wpList P ops.toArray Q rest (a.put o.dst (.float .f32 r)) (w.drewN n)) : wpList P ops.toArray Q (o :: rest) a w :=
  wpList_step fun K hK => by
    rw [if_pos hw]
    exact wp_f ho hx hy hop fun r n hr => hK _ _ (h r n hr)

theorem ret_fb {k : FloatKind} {a : Nat} {b c : Bool} (h : b = c) : Ending.returned (.tuple #[.float k a, .bool b]) = .returned (.tuple #[.float k a, .bool c]) := by rw [h]
theorem can_l1 : can .f32 1082130432 = 1082130432 := by decide +kernel
theorem can_l2 : can .f32 1073741824 = 1073741824 := by decide +kernel
theorem can_l3 : can .f32 1056964608 = 1056964608 := by decide +kernel
theorem can_l4 : can .f32 1086324736 = 1086324736 := by decide +kernel
theorem can_l5 : can .f32 0 = 0 := by decide +kernel
theorem can_l6 : can .f32 1065353216 = 1065353216 := by decide +kernel

theorem below_dr {B : Nat} {a w : World} (h : RowKit.Below B a w) (n : Nat) : RowKit.Below B a (w.drewN n) := ⟨h.os, h.tape, h.output, h.size, h.block⟩

theorem order_self {k : FloatKind} {b : Nat} (h : nanB k b = false) : k.format.order b b = some .eq := by
  unfold nanB at h
  unfold Ieee.Format.order
  cases hd : k.format.read b with
  | nan s f => rw [hd] at h; simp [Ieee.Datum.isNaN] at h
  | infinity s => simp [Ieee.Datum.order, Std.ReflCmp.compare_self]
  | number s m e => simp [Ieee.Datum.order, Std.ReflCmp.compare_self]
theorem order_nan {k : FloatKind} {a b : Nat} (h : nanB k a = true) : k.format.order a b = none := by
  obtain ⟨s, f, hd⟩ := isNaN_nan h
  unfold Ieee.Format.order
  rw [hd]; rfl
theorem order_mop {k : FloatKind} {op : BinOp} {a b c : Nat} {w w' : World} : k.format.order (mop op k a b w) c = k.format.order (mop op k a b w') c := by
  rw [← order_can k (mop op k a b w) c, ← order_can k (mop op k a b w') c, can_mop, can_mop]
theorem can_eq_cases {k : FloatKind} {a b : Nat} (h : can k a = can k b) : (nanB k a = true ∧ nanB k b = true) ∨ (nanB k a = false ∧ a = b) := by
  have h1 : nanB k a = nanB k b := by rw [← nanB_can, h, nanB_can]
  cases ha : nanB k a
  · right
    have hb : nanB k b = false := by rw [← h1]; exact ha
    rw [can_of_not ha, can_of_not hb] at h
    exact ⟨rfl, h⟩
  · left; exact ⟨rfl, by rw [← h1]; exact ha⟩

theorem bcell {W w1 : World} (hb : RowKit.Below W.heap.size W w1) : (∀ b o, b < W.heap.size → w1.cell? ⟨b, o, none⟩ = W.cell? ⟨b, o, none⟩) ∧ (∀ b o, b < W.heap.size → w1.frozen? ⟨b, o, none⟩ = W.frozen? ⟨b, o, none⟩) :=
  ⟨fun b o h => hb.cell (p := ⟨b, o, none⟩) h, fun b o h => hb.frozen (p := ⟨b, o, none⟩) h⟩

/-- the product of a list from left to right -/
def prodF (xs : List Nat) : Nat := match xs with | [] => 0 | x :: r => r.foldl fmul x

/-- block b holds these cells, none of them frozen -/
def OwnC (w : World) (b : Nat) (cs : Array Value) (T : TypeId) : Prop := w.heap[b]? = some (.cells cs T (0, 0))
theorem OwnC.lt {w : World} {b : Nat} {cs : Array Value} {T : TypeId} (h : OwnC w b cs T) : b < w.heap.size := by
  unfold OwnC at h
  rcases Nat.lt_or_ge b w.heap.size with h1 | h1
  · exact h1
  · rw [Array.getElem?_eq_none h1] at h; cases h
theorem OwnC.cell {w : World} {b : Nat} {cs : Array Value} {T : TypeId} (h : OwnC w b cs T) (i : Nat) : w.cell? ⟨b, i, none⟩ = cs[i]? := by unfold OwnC at h; simp [World.cell?, h]
theorem OwnC.free {w : World} {b : Nat} {cs : Array Value} {T : TypeId} (h : OwnC w b cs T) (i : Nat) : w.frozen? ⟨b, i, none⟩ = false := by unfold OwnC at h; simp [World.frozen?, h]
theorem OwnC.new {w : World} {b : Nat} {cs : Array Value} {T : TypeId} (hb : b = w.heap.size) : OwnC (w.alloc (.cells cs T)) b cs T := by
  subst hb
  show (w.heap.push _)[w.heap.size]? = _
  simp
theorem OwnC.alloc {w : World} {b : Nat} {cs : Array Value} {T : TypeId} (h : OwnC w b cs T) (o : Obj) : OwnC (w.alloc o) b cs T := by
  have := h.lt
  unfold OwnC
  rw [RowKit.Below.heap_alloc w o b this]; exact h
theorem OwnC.drewN {w : World} {b : Nat} {cs : Array Value} {T : TypeId} (h : OwnC w b cs T) (n : Nat) : OwnC (w.drewN n) b cs T := h
theorem OwnC.below {w w' : World} {b B : Nat} {cs : Array Value} {T : TypeId} (h : OwnC w b cs T) (hb : RowKit.Below B w w') (hl : b < B) : OwnC w' b cs T := (hb.block b hl).trans h
theorem OwnC.other {w : World} {b : Nat} {cs : Array Value} {T : TypeId} (h : OwnC w b cs T) (a : Addr) (v : Value) (hne : b ≠ a.block) : OwnC (w.setCell a v) b cs T := by
  unfold OwnC
  rw [RowKit.Below.heap_setCell w a v b hne]; exact h
theorem OwnC.set {w : World} {b : Nat} {cs : Array Value} {T : TypeId} (h : OwnC w b cs T) (i : Nat) (v : Value) : OwnC (w.setCell ⟨b, i, none⟩ v) b (cs.setIfInBounds i v) T := by
  unfold OwnC at *
  have hl := OwnC.lt h
  simp only [World.setCell, Array.getElem?_modify, if_true]
  rw [h]; rfl
theorem OwnC.congr {w : World} {b : Nat} {cs cs' : Array Value} {T : TypeId} (h : OwnC w b cs T) (e : cs = cs') : OwnC w b cs' T := e ▸ h

/-- the value v is a slice that reads as the numbers xs (their bits) in the world w -/
def SlF (w : World) (v : Value) (xs : List Nat) : Prop :=
  (v = .slice none 0 0 ∧ xs = []) ∨
  ∃ b off cap, v = .slice (some ⟨b, off, none⟩) xs.length cap ∧ xs.length ≤ 9223372036854775807 ∧ ∀ i, i < xs.length → w.cell? ⟨b, off + i, none⟩ = some (.float .f32 (xs.getD i 0))
theorem slF_new (w : World) (xs : List Nat) (T : TypeId) (nb n : Nat) (hb : nb = w.heap.size) (hn : xs.length ≤ 9223372036854775807) (cells : Array Value)
    (hcells : cells = (xs.map (Value.float .f32)).toArray) (hx : n = xs.length) :
    SlF (w.alloc (.cells cells T (0, 0))) (.slice (some ⟨nb, 0, none⟩) n n) xs := by
  subst hcells hx hb
  refine .inr ⟨w.heap.size, 0, xs.length, rfl, hn, fun i hi => ?_⟩
  rw [Nat.zero_add, World.cell?_alloc_new]
  simp [hi]
theorem SlF.drewN {w : World} {v : Value} {xs : List Nat} (h : SlF w v xs) (n : Nat) : SlF (w.drewN n) v xs := h

end Go.Fl

namespace Go.Fl

/-- a spot: three numbers, their not-a-numbers made one -/
abbrev Sp := Nat × Nat × Nat
/-- the number, the spot, the facet at a place -/
def iAt (xs : List Int) (i : Nat) : Int := xs.getD i 0
def pAt (ps : List Sp) (i : Nat) : Sp := ps.getD i (0, 0, 0)
def fAt (fs : List (List Int)) (i : Nat) : List Int := fs.getD i []

/-- the blocks from lo up to hi hold in w' what they hold in w -/
def Far (lo hi : Nat) (w w' : World) : Prop := ∀ b, lo ≤ b → b < hi → w'.heap[b]? = w.heap[b]?
theorem Far.below {B lo hi : Nat} {w w' : World} (h : RowKit.Below B w w') (hb : hi ≤ B) : Far lo hi w w' := fun b _ h2 => h.block b (by omega)
theorem Far.cell {lo hi : Nat} {w w' : World} (h : Far lo hi w w') {b o : Nat} (h1 : lo ≤ b) (h2 : b < hi) : w'.cell? ⟨b, o, none⟩ = w.cell? ⟨b, o, none⟩ :=
  World.cell?_of_block (w := w) (a := ⟨b, o, none⟩) (h b h1 h2)
theorem Far.trans {lo hi : Nat} {a b c : World} (h : Far lo hi a b) (k : Far lo hi b c) : Far lo hi a c := fun i h1 h2 => (k i h1 h2).trans (h i h1 h2)
theorem Far.refl (lo hi : Nat) (w : World) : Far lo hi w w := fun _ _ _ => rfl
theorem Far.set {lo hi : Nat} {a w : World} (h : Far lo hi a w) (p : Addr) (v : Value) (hp : p.block < lo ∨ hi ≤ p.block) : Far lo hi a (w.setCell p v) := fun i h1 h2 => (RowKit.Below.heap_setCell _ _ _ _ (by omega)).trans (h i h1 h2)
theorem Far.alloc {lo hi : Nat} {a w : World} (h : Far lo hi a w) (o : Obj) (hh : hi ≤ w.heap.size) : Far lo hi a (w.alloc o) := fun i h1 h2 => (RowKit.Below.heap_alloc _ _ _ (by omega)).trans (h i h1 h2)
theorem Far.drewN {lo hi : Nat} {a w : World} (h : Far lo hi a w) (n : Nat) : Far lo hi a (w.drewN n) := h
theorem Far.mono {lo hi lo' hi' : Nat} {w w' : World} (h : Far lo hi w w') (hl : lo ≤ lo') (hh : hi' ≤ hi) : Far lo' hi' w w' := fun b h1 h2 => h b (by omega) (by omega)

theorem keep_cell {w w' : World} {b o : Nat} {v : Value} (h : RowKit.Below w.heap.size w w') (hc : w.cell? ⟨b, o, none⟩ = some v) : w'.cell? ⟨b, o, none⟩ = some v :=
  (h.cell (p := ⟨b, o, none⟩) (World.block_lt_of_cell? w _ hc)).trans hc

/-- a slice at ao reads as the numbers xs; its block lies from lo up to hi -/
def SlI (w : World) (lo hi : Nat) (ao : Option Addr) (xs : List Int) : Prop :=
  0 < xs.length → ∃ b off, ao = some ⟨b, off, none⟩ ∧ lo ≤ b ∧ b < hi ∧ ∀ i, i < xs.length → w.cell? ⟨b, off + i, none⟩ = some (.int .i64 (iAt xs i))
/-- a slice at ao reads as the spots ps -/
def SlP (w : World) (lo hi : Nat) (ao : Option Addr) (ps : List Sp) : Prop :=
  0 < ps.length → ∃ b off, ao = some ⟨b, off, none⟩ ∧ lo ≤ b ∧ b < hi ∧ ∀ i, i < ps.length → ∃ x y z,
    w.cell? ⟨b, off + i * 3, none⟩ = some (.float .f32 x) ∧ w.cell? ⟨b, off + i * 3 + 1, none⟩ = some (.float .f32 y) ∧ w.cell? ⟨b, off + i * 3 + 2, none⟩ = some (.float .f32 z) ∧
    F32 x (pAt ps i).1 ∧ F32 y (pAt ps i).2.1 ∧ F32 z (pAt ps i).2.2
/-- a slice at ao reads as the facets fs -/
def SlN (w : World) (lo hi : Nat) (ao : Option Addr) (fs : List (List Int)) : Prop :=
  0 < fs.length → ∃ b off, ao = some ⟨b, off, none⟩ ∧ lo ≤ b ∧ b < hi ∧ ∀ i, i < fs.length → ∃ ai ci,
    w.cell? ⟨b, off + i, none⟩ = some (.slice ai (fAt fs i).length ci) ∧ SlI w lo hi ai (fAt fs i)

theorem SlI.far {w w' : World} {lo hi : Nat} {ao : Option Addr} {xs : List Int} (h : SlI w lo hi ao xs) (hf : Far lo hi w w') : SlI w' lo hi ao xs := fun hp => by
  obtain ⟨b, off, rfl, h1, h2, hc⟩ := h hp
  exact ⟨b, off, rfl, h1, h2, fun i hi => (hf.cell h1 h2).trans (hc i hi)⟩
theorem SlI.mono {w : World} {lo hi lo' hi' : Nat} {ao : Option Addr} {xs : List Int} (h : SlI w lo hi ao xs) (hl : lo' ≤ lo) (hh : hi ≤ hi') : SlI w lo' hi' ao xs := fun hp => by
  obtain ⟨b, off, rfl, h1, h2, hc⟩ := h hp
  exact ⟨b, off, rfl, by omega, by omega, hc⟩
theorem SlP.far {w w' : World} {lo hi : Nat} {ao : Option Addr} {ps : List Sp} (h : SlP w lo hi ao ps) (hf : Far lo hi w w') : SlP w' lo hi ao ps := fun hp => by
  obtain ⟨b, off, rfl, h1, h2, hc⟩ := h hp
  refine ⟨b, off, rfl, h1, h2, fun i hi => ?_⟩
  obtain ⟨x, y, z, c1, c2, c3, f1, f2, f3⟩ := hc i hi
  exact ⟨x, y, z, (hf.cell h1 h2).trans c1, (hf.cell h1 h2).trans c2, (hf.cell h1 h2).trans c3, f1, f2, f3⟩
theorem SlP.mono {w : World} {lo hi lo' hi' : Nat} {ao : Option Addr} {ps : List Sp} (h : SlP w lo hi ao ps) (hl : lo' ≤ lo) (hh : hi ≤ hi') : SlP w lo' hi' ao ps := fun hp => by
  obtain ⟨b, off, rfl, h1, h2, hc⟩ := h hp
  exact ⟨b, off, rfl, by omega, by omega, hc⟩
theorem SlN.far {w w' : World} {lo hi : Nat} {ao : Option Addr} {fs : List (List Int)} (h : SlN w lo hi ao fs) (hf : Far lo hi w w') : SlN w' lo hi ao fs := fun hp => by
  obtain ⟨b, off, rfl, h1, h2, hc⟩ := h hp
  refine ⟨b, off, rfl, h1, h2, fun i hi => ?_⟩
  obtain ⟨ai, ci, c1, s1⟩ := hc i hi
  exact ⟨ai, ci, (hf.cell h1 h2).trans c1, s1.far hf⟩
theorem SlN.mono {w : World} {lo hi lo' hi' : Nat} {ao : Option Addr} {fs : List (List Int)} (h : SlN w lo hi ao fs) (hl : lo' ≤ lo) (hh : hi ≤ hi') : SlN w lo' hi' ao fs := fun hp => by
  obtain ⟨b, off, rfl, h1, h2, hc⟩ := h hp
  refine ⟨b, off, rfl, by omega, by omega, fun i hi => ?_⟩
  obtain ⟨ai, ci, c1, s1⟩ := hc i hi
  exact ⟨ai, ci, c1, s1.mono hl hh⟩

/-- the value of a net: two slices -/
def netV (sa fa : Option Addr) (n cn m cm : Nat) : Value := .agg #[.slice sa n cn, .slice fa m cm]
/-- a net whose slices lie at sa and fa reads as spots ps and facets fs -/
structure NetAt (w : World) (lo hi : Nat) (sa fa : Option Addr) (ps : List Sp) (fs : List (List Int)) : Prop where
  spots : SlP w lo hi sa ps
  facets : SlN w lo hi fa fs
theorem NetAt.far {w w' : World} {lo hi : Nat} {sa fa : Option Addr} {ps : List Sp} {fs : List (List Int)} (h : NetAt w lo hi sa fa ps fs) (hf : Far lo hi w w') : NetAt w' lo hi sa fa ps fs := ⟨h.1.far hf, h.2.far hf⟩
theorem NetAt.mono {w : World} {lo hi lo' hi' : Nat} {sa fa : Option Addr} {ps : List Sp} {fs : List (List Int)} (h : NetAt w lo hi sa fa ps fs) (hl : lo' ≤ lo) (hh : hi ≤ hi') : NetAt w lo' hi' sa fa ps fs := ⟨h.1.mono hl hh, h.2.mono hl hh⟩

/-- block b is the walk's own, has room for n cells, none of them frozen -/
def Room (w : World) (b n : Nat) : Prop := ∃ cs T, OwnC w b cs T ∧ n ≤ cs.size
theorem Room.cell {w : World} {b n i : Nat} (h : Room w b n) (hi : i < n) : ∃ v, w.cell? ⟨b, i, none⟩ = some v := by
  obtain ⟨cs, T, h1, h2⟩ := h
  exact ⟨cs[i], by rw [h1.cell]; simp [show i < cs.size by omega]⟩
theorem Room.free {w : World} {b n : Nat} (h : Room w b n) (i : Nat) : w.frozen? ⟨b, i, none⟩ = false := by
  obtain ⟨cs, T, h1, h2⟩ := h
  exact h1.free i
theorem Room.lt {w : World} {b n : Nat} (h : Room w b n) : b < w.heap.size := by
  obtain ⟨cs, T, h1, h2⟩ := h
  exact h1.lt
theorem Room.set {w : World} {b n : Nat} (h : Room w b n) (b' i : Nat) (v : Value) : Room (w.setCell ⟨b', i, none⟩ v) b n := by
  obtain ⟨cs, T, h1, h2⟩ := h
  by_cases hb : b = b'
  · subst hb
    exact ⟨_, T, h1.set i v, by simpa using h2⟩
  · exact ⟨cs, T, h1.other _ _ hb, h2⟩
theorem Room.far {w w' : World} {b n lo hi : Nat} (h : Room w b n) (hf : Far lo hi w w') (h1 : lo ≤ b) (h2 : b < hi) : Room w' b n := by
  obtain ⟨cs, T, h3, h4⟩ := h
  exact ⟨cs, T, (hf b h1 h2).trans h3, h4⟩
theorem Room.mono {w : World} {b n m : Nat} (h : Room w b n) (hm : m ≤ n) : Room w b m := by
  obtain ⟨cs, T, h3, h4⟩ := h
  exact ⟨cs, T, h3, by omega⟩
end Go.Fl

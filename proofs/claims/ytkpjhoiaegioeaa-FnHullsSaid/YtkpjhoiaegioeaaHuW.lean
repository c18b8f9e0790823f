/- The law's areas and gaps: 64 bits. -/
import Derived.Test.YtkpjhoiaegioeaaHuJ
import Derived.Test.YtkpjhoiaegioeaaHuO
import Derived.Test.YtkpjhoiaegioeaaBAt
namespace Go.Fl
open Ieee Go.RowKit
def termF (p q : Cx) : Nat := fop .sub .f64 (fop .mul .f64 (fcv .f32 .f64 p.1) (fcv .f32 .f64 q.2)) (fop .mul .f64 (fcv .f32 .f64 p.2) (fcv .f32 .f64 q.1))
def sumF (xs : List Cx) : Nat → Nat
  | 0 => 0
  | k + 1 => fop .add .f64 (sumF xs k) (termF (cAt xs k) (cAt xs ((k + 1) % xs.length)))
def areaF (xs : List Cx) : Nat := fop .quo .f64 (sumF xs xs.length) 4611686018427387904
structure TermN (p q : Cx) : Prop where
  a : isN .f64 (fop .mul .f64 (fcv .f32 .f64 p.1) (fcv .f32 .f64 q.2)) = true
  b : isN .f64 (fop .mul .f64 (fcv .f32 .f64 p.2) (fcv .f32 .f64 q.1)) = true
  c : isN .f64 (termF p q) = true
theorem term_facts {p q : Cx} (hp : nN p) (hq : nN q) (wp : within (RP p) 6) (wq : within (RP q) 6) : TermN p q ∧ -(1 / 1000000000) ≤ R .f64 (termF p q) - fR (0, 0) (RP p) (RP q) ∧ R .f64 (termF p q) - fR (0, 0) (RP p) (RP q) ≤ 1 / 1000000000 ∧ -80 ≤ R .f64 (termF p q) ∧ R .f64 (termF p q) ≤ 80 := by
  obtain ⟨a1, a2, a3, a4⟩ := wp
  obtain ⟨b1, b2, b3, b4⟩ := wq
  have a1 : -6 ≤ R .f32 p.1 := a1
  have a2 : R .f32 p.1 ≤ 6 := a2
  have a3 : -6 ≤ R .f32 p.2 := a3
  have a4 : R .f32 p.2 ≤ 6 := a4
  have b1 : -6 ≤ R .f32 q.1 := b1
  have b2 : R .f32 q.1 ≤ 6 := b2
  have b3 : -6 ≤ R .f32 q.2 := b3
  have b4 : R .f32 q.2 ≤ 6 := b4
  obtain ⟨n1, e1⟩ := wide hp.1 (by grind) (by grind)
  obtain ⟨n2, e2⟩ := wide hp.2 (by grind) (by grind)
  obtain ⟨n3, e3⟩ := wide hq.1 (by grind) (by grind)
  obtain ⟨n4, e4⟩ := wide hq.2 (by grind) (by grind)
  obtain ⟨m1, m2⟩ := mul_bd a1 a2 b3 b4
  obtain ⟨m3, m4⟩ := mul_bd a3 a4 b1 b2
  have h1 := rnd_mul n1 n4 (by rw [e1, e4]; grind) (by rw [e1, e4]; grind)
  have h2 := rnd_mul n2 n3 (by rw [e2, e3]; grind) (by rw [e2, e3]; grind)
  rw [e1, e4] at h1
  rw [e2, e3] at h2
  have f1 := h1.n64 6 (by decide) (B := 64) rfl (by grind) (by grind)
  have f2 := h2.n64 6 (by decide) (B := 64) rfl (by grind) (by grind)
  have h3 := rnd_sub h1.num h2.num (by grind) (by grind)
  have f3 := h3.n64 7 (by decide) (B := 128) rfl (by grind) (by grind)
  refine ⟨⟨h1.num, h2.num, h3.num⟩, ?_, ?_, ?_, ?_⟩
  · show _ ≤ R .f64 (fop .sub .f64 _ _) - ((R .f32 p.1 - 0) * (R .f32 q.2 - 0) - (R .f32 p.2 - 0) * (R .f32 q.1 - 0)); grind
  · show R .f64 (fop .sub .f64 _ _) - ((R .f32 p.1 - 0) * (R .f32 q.2 - 0) - (R .f32 p.2 - 0) * (R .f32 q.1 - 0)) ≤ _; grind
  · show _ ≤ R .f64 (fop .sub .f64 _ _); grind
  · show R .f64 (fop .sub .f64 _ _) ≤ _; grind
theorem zero64_N : isN .f64 0 = true ∧ R .f64 0 = 0 := ⟨by decide +kernel, R_zero_iff.2 (by decide +kernel)⟩
theorem two64_N : isN .f64 4611686018427387904 = true ∧ R .f64 4611686018427387904 = 2 := by
  have q : Q .f64 4611686018427387904 2 0 := ⟨by decide +kernel, by decide +kernel, by decide⟩
  exact ⟨q.num, by rw [q.R]; decide +kernel⟩
theorem sum_facts {xs : List Cx} (hx : ∀ z, z ∈ xs → nN z ∧ within (RP z) 6) (hl : xs.length ≤ 40) : ∀ k, k ≤ xs.length → isN .f64 (sumF xs k) = true ∧ -((((k : Nat) : Int) : Rat) / 100000000) ≤ R .f64 (sumF xs k) - sumTo (fun i => fR (0, 0) (RP (cAt xs i)) (RP (cAt xs ((i + 1) % xs.length)))) k ∧
    R .f64 (sumF xs k) - sumTo (fun i => fR (0, 0) (RP (cAt xs i)) (RP (cAt xs ((i + 1) % xs.length)))) k ≤ (((k : Nat) : Int) : Rat) / 100000000 ∧ -(81 * (((k : Nat) : Int) : Rat)) ≤ R .f64 (sumF xs k) ∧ R .f64 (sumF xs k) ≤ 81 * (((k : Nat) : Int) : Rat)
  | 0, _ => by
    have e : (((0 : Nat) : Int) : Rat) = 0 := rfl
    refine ⟨zero64_N.1, ?_, ?_, ?_, ?_⟩
    · rw [e]; show _ ≤ R .f64 0 - 0; rw [zero64_N.2]; grind
    · rw [e]; show R .f64 0 - 0 ≤ _; rw [zero64_N.2]; grind
    · rw [e]; show _ ≤ R .f64 0; rw [zero64_N.2]; grind
    · rw [e]; show R .f64 0 ≤ _; rw [zero64_N.2]; grind
  | k + 1, hk => by
    obtain ⟨i1, i2, i3, i4, i5⟩ := sum_facts hx hl k (by omega)
    have m1 := hx _ (cAt_mem (xs := xs) (show k < xs.length by omega))
    have m2 := hx _ (cAt_mem (xs := xs) (Nat.mod_lt (k + 1) (show 0 < xs.length by omega)))
    obtain ⟨t1, t2, t3, t4, t5⟩ := term_facts m1.1 m2.1 m1.2 m2.2
    have e : (((k + 1 : Nat) : Int) : Rat) = (((k : Nat) : Int) : Rat) + 1 := by rw [Int.natCast_add, Rat.intCast_add]; rfl
    have k0 : (0 : Rat) ≤ (((k : Nat) : Int) : Rat) := Rat.intCast_nonneg.2 (Int.natCast_nonneg _)
    have k4 : (((k : Nat) : Int) : Rat) ≤ ((40 : Int) : Rat) := Rat.intCast_le_intCast.2 (by omega)
    have k4 : (((k : Nat) : Int) : Rat) ≤ 40 := k4
    obtain ⟨K, hK⟩ : ∃ K, K = (((k : Nat) : Int) : Rat) := ⟨_, rfl⟩
    rw [← hK] at e k0 k4 i2 i3 i4 i5
    rw [e]
    have h := rnd_add i1 t1.c (by grind) (by grind)
    have f := h.n64 12 (by decide) (B := 4096) rfl (by grind) (by grind)
    obtain ⟨S, hS⟩ : ∃ S, S = sumTo (fun i => fR (0, 0) (RP (cAt xs i)) (RP (cAt xs ((i + 1) % xs.length)))) k := ⟨_, rfl⟩
    rw [← hS] at i2 i3
    refine ⟨h.num, ?_, ?_, ?_, ?_⟩
    · show _ ≤ R .f64 (fop .add .f64 _ _) - (sumTo _ k + fR (0, 0) (RP (cAt xs k)) (RP (cAt xs ((k + 1) % xs.length)))); rw [← hS]; grind
    · show R .f64 (fop .add .f64 _ _) - (sumTo _ k + fR (0, 0) (RP (cAt xs k)) (RP (cAt xs ((k + 1) % xs.length)))) ≤ _; rw [← hS]; grind
    · show _ ≤ R .f64 (fop .add .f64 _ _); grind
    · show R .f64 (fop .add .f64 _ _) ≤ _; grind
theorem area_facts {xs : List Cx} (hx : ∀ z, z ∈ xs → nN z ∧ within (RP z) 6) (hl : xs.length ≤ 40) : isN .f64 (areaF xs) = true ∧ -(1 / 1000000) ≤ R .f64 (areaF xs) - areaR xs / 2 ∧ R .f64 (areaF xs) - areaR xs / 2 ≤ 1 / 1000000 ∧ -1700 ≤ R .f64 (areaF xs) ∧ R .f64 (areaF xs) ≤ 1700 := by
  obtain ⟨i1, i2, i3, i4, i5⟩ := sum_facts hx hl xs.length (Nat.le_refl _)
  have k4 : (((xs.length : Nat) : Int) : Rat) ≤ ((40 : Int) : Rat) := Rat.intCast_le_intCast.2 (by omega)
  have k4 : (((xs.length : Nat) : Int) : Rat) ≤ 40 := k4
  have h := rnd_div (q := R .f64 (sumF xs xs.length) / 2) i1 two64_N.1 (by rw [two64_N.2]; grind) (by rw [two64_N.2]; grind) (by grind) (by grind)
  have f := h.n64 11 (by decide) (B := 2048) rfl (by grind) (by grind)
  obtain ⟨S, hS⟩ : ∃ S, S = areaR xs := ⟨_, rfl⟩
  have i2 : -((((xs.length : Nat) : Int) : Rat) / 100000000) ≤ R .f64 (sumF xs xs.length) - S := by rw [hS]; exact i2
  have i3 : R .f64 (sumF xs xs.length) - S ≤ (((xs.length : Nat) : Int) : Rat) / 100000000 := by rw [hS]; exact i3
  rw [← hS]
  exact ⟨h.num, by show _ ≤ R .f64 (fop .quo .f64 _ _) - _; grind, by show R .f64 (fop .quo .f64 _ _) - _ ≤ _; grind, by show _ ≤ R .f64 (fop .quo .f64 _ _); grind, by show R .f64 (fop .quo .f64 _ _) ≤ _; grind⟩
def gapF (a b : Nat) : Nat := if R .f64 a < R .f64 b then fop .sub .f64 b a else fop .sub .f64 a b
theorem ord_R64 {x y : Nat} (hx : isN .f64 x = true) (hy : isN .f64 y = true) : (FloatKind.f64.format.order x y == some .lt) = decide (R .f64 x < R .f64 y) := by
  rw [ord_V hx hy]
  cases h : compare (V .f64 x) (V .f64 y)
  · rw [Int.compare_eq_lt] at h; simp [R_lt, h]
  · rw [Int.compare_eq_eq] at h; simp [R_lt, h]
  · rw [Int.compare_eq_gt] at h; simp [R_lt]; omega
theorem ord_G64 {x y : Nat} (hx : isN .f64 x = true) (hy : isN .f64 y = true) : (FloatKind.f64.format.order x y == some .gt) = decide (R .f64 y < R .f64 x) := by
  rw [ord_V hx hy]
  cases h : compare (V .f64 x) (V .f64 y)
  · rw [Int.compare_eq_lt] at h; simp [R_lt]; omega
  · rw [Int.compare_eq_eq] at h; simp [R_lt, h]
  · rw [Int.compare_eq_gt] at h; simp [R_lt, h]
theorem gap_facts {a b : Nat} (ha : isN .f64 a = true) (hb : isN .f64 b = true) (a1 : -10000 ≤ R .f64 a) (a2 : R .f64 a ≤ 10000) (b1 : -10000 ≤ R .f64 b) (b2 : R .f64 b ≤ 10000) :
    isN .f64 (gapF a b) = true ∧ (∀ c : Rat, -c ≤ R .f64 a - R .f64 b → R .f64 a - R .f64 b ≤ c → R .f64 (gapF a b) ≤ c + 1 / 1000000) ∧ isN .f64 (if R .f64 a < R .f64 b then fop .sub .f64 b a else fop .sub .f64 a b) = true := by
  unfold gapF
  split
  · have h := rnd_sub hb ha (by grind) (by grind)
    have f := h.n64 15 (by decide) (B := 32768) rfl (by grind) (by grind)
    exact ⟨h.num, fun c h1 h2 => by grind, h.num⟩
  · have h := rnd_sub ha hb (by grind) (by grind)
    have f := h.n64 15 (by decide) (B := 32768) rfl (by grind) (by grind)
    exact ⟨h.num, fun c h1 h2 => by grind, h.num⟩
end Go.Fl
namespace Go.Fl
open Ieee Go.RowKit
@[go_sem high] theorem run_wid1 {P : Program} {w : World} {src dst : TypeId} (b : Nat) (h1 : nanB .f32 b = false) (hs : (P.underlying src).isSome = true) (hd : P.underlying dst = some (.float .f64)) :
    (convert src dst (.float .f32 b)).run P w = .ok (.float .f64 (fcv .f32 .f64 b)) w := by
  rw [run_widen b hs hd]
  simp [mcv, mcd, h1, fits_widen b, World.drewN_zero, fcv]
end Go.Fl
namespace Go.Proofs.Ytkpjhoiaegioeaa
open Go.RowKit Go.Fl

theorem b10GapN (a b : Nat) (ha : isN .f64 a = true) (hb : isN .f64 b = true) (hg : isN .f64 (if R .f64 a < R .f64 b then fop .sub .f64 b a else fop .sub .f64 a b) = true) (w : World) :
    Calls Try.prog 11 #[.float .f64 a, .float .f64 b] w fun e w' => e = .returned (.float .f64 (gapF a b)) ∧ w' = w := by
  have ho := ord_R64 ha hb
  have dz : ∀ w : World, w.drewN 0 = w := World.drewN_zero
  unfold gapF
  by_cases c : R .f64 a < R .f64 b
  · rw [if_pos c] at hg ⊢
    rw [decide_eq_true c] at ho
    obtain ⟨m, d⟩ := run_fopN hg
    clear ha hb hg c
    go_enter Try.func11, Try.ntmps11
    go_wp2_with fail
    go_ret
    exact ⟨rfl, rfl⟩
  · rw [if_neg c] at hg ⊢
    rw [decide_eq_false c] at ho
    obtain ⟨m, d⟩ := run_fopN hg
    clear ha hb hg c
    go_enter Try.func11, Try.ntmps11
    go_wp2_with fail
    go_ret
    exact ⟨rfl, rfl⟩
theorem run_bitsW (b : Nat) (w : World) : (callFunc 86 #[.float .f32 b]).run Try.prog w = .ok (.value (.int .u32 b)) w := by
  rw [run_callFunc_extern (P := Try.prog) (e := Extern.MathFloatBits.float32bits) Try.func86 (by kernel_rfl) (by kernel_rfl) (by kernel_rfl) (by kernel_rfl) #[.float .f32 b] w]
  rfl
theorem l01BitsN (b : Nat) (hb : b < 4294967296) (h : nanB .f32 b = false) (w : World) : Calls Try.prog 84 #[.float .f32 b] w fun e w' => e = .returned (.int .i64 (b : Nat)) ∧ w' = w := by
  have hbits := run_bitsW b
  have h1 : (FloatKind.f32.format.order b b != some Ordering.eq) = false := by rw [order_self h]; rfl
  go_enter Try.func84, Try.ntmps84
  go_wp2_with fail
  go_ret
  exact ⟨rfl, rfl⟩
theorem l01SameN (b : Nat) (hb : b < 4294967296) (h : nanB .f32 b = false) (w : World) : Calls Try.prog 77 #[.float .f32 b, .float .f32 b] w fun e w' => e = .returned (.bool true) ∧ w' = w := by
  have HB := Lib.hid (fun W => l01BitsN b hb h W)
  clear h
  go_enter Try.func77, Try.ntmps77
  go_wp2_with (go_at_call 84; refine (HB.out _).mono ?_; rintro e w ⟨rfl, rfl⟩)
  go_ret
  exact ⟨ret_bool (by simp), rfl⟩
theorem sameCxN (x y : Nat) (hx : x < 4294967296) (hy : y < 4294967296) (h1 : nanB .f32 x = false) (h2 : nanB .f32 y = false) (w : World) : Calls Try.prog 38 #[.complex .f32 x y, .complex .f32 x y] w fun e w' => e = .returned (.bool true) ∧ w' = w := by
  have HC : Hid (∀ w, Calls Try.prog 64 #[.complex .f32 x y, .complex .f32 x y] w fun e w' => e = .returned (.bool true) ∧ w' = w) := Lib.hid fun w => by
    have HX := Lib.hid (fun W => l01SameN x hx h1 W)
    have HY := Lib.hid (fun W => l01SameN y hy h2 W)
    clear h1 h2 hx hy
    go_enter Try.func64, Try.ntmps64
    go_wp2_with fail
    refine (HX.out _).mono ?_
    rintro e w1 ⟨rfl, rfl⟩
    go_wp2_with fail
    refine (HY.out _).mono ?_
    rintro e w1 ⟨rfl, rfl⟩
    go_wp2_with fail
    go_ret
    exact ⟨rfl, rfl⟩
  clear h1 h2
  go_enter Try.func38, Try.ntmps38
  go_wp2_with fail
  refine (HC.out _).mono ?_
  rintro e w1 ⟨rfl, rfl⟩
  go_wp2_with fail
  go_ret
  exact ⟨rfl, rfl⟩

set_option maxHeartbeats 1000000 in
theorem sameAllN (lo hi lo' hi' : Nat) (ao ao' : Option Addr) (c c' n : Nat) (zs : List Cx) (hn : zs.length = n) (hn2 : n ≤ 1000) (hok : ∀ z, z ∈ zs → nN z ∧ z.1 < 4294967296 ∧ z.2 < 4294967296) (w : World) (hs : SlC w lo hi ao zs) (hs' : SlC w lo' hi' ao' zs) :
    Calls Try.prog 8 #[.slice ao n c, .slice ao' n c'] w fun e w' => e = .returned (.bool true) ∧ ∃ q, w' = w.drewN q := by
  have HS := Lib.hid hs
  have HS' := Lib.hid hs'
  have HOK := Lib.hid hok
  have HN := Lib.hid hn
  clear hs hs' hok hn
  go_enter Try.func8, Try.ntmps8
  go_wp2_with fail
  go_loopw [13] (fun i wr => ∃ k q : Nat, k ≤ n ∧ i = .int .i64 k ∧ wr = w.drewN q) (fun i _ => n - (intOf i).toNat)
  case atStart => exact ⟨0, 0, Nat.zero_le _, rfl, rfl⟩
  case round =>
    obtain ⟨k, q, hk, rfl, rfl⟩ := hrel
    by_cases hlt : k < n
    · have k0 : (0 : Int) ≤ (k : Int) := by omega
      have k1 : (k : Int) < (n : Int) := by omega
      obtain ⟨b, hb, _, _, hc⟩ := HS.out (by rw [HN.out]; omega)
      obtain ⟨b', hb', _, _, hc'⟩ := HS'.out (by rw [HN.out]; omega)
      have c1 := hc k (by rw [HN.out]; exact hlt)
      have c2 := hc' k (by rw [HN.out]; exact hlt)
      obtain ⟨⟨z1, z2⟩, z3, z4⟩ := HOK.out _ (cAt_mem (xs := zs) (by rw [HN.out]; exact hlt))
      obtain ⟨x, hx⟩ : ∃ x, x = (cAt zs k).1 := ⟨_, rfl⟩
      obtain ⟨y, hy⟩ : ∃ y, y = (cAt zs k).2 := ⟨_, rfl⟩
      unfold cV at c1 c2
      rw [← hx] at c1 c2 z1 z3
      rw [← hy] at c1 c2 z2 z4
      have HC := Lib.hid (fun W => sameCxN x y z3 z4 (isN.nan z1) (isN.nan z2) W)
      subst hb
      subst hb'
      clear hc hc' hx hy z1 z2 z3 z4 HS HS'
      go_wp2_with fail
      go_quiet ((go_at_call 38; refine (HC.out _).mono ?_; rintro e w1 ⟨rfl, hw1⟩; exact ⟨rfl, _, hw1⟩))
      go_wp2_with fail
      exact ⟨⟨k + 1, _, by omega, by go_num, rfl⟩, meas_upI k1⟩
    · have k1 : ¬ (k : Int) < (n : Int) := by omega
      go_wp2_with fail
      go_ret
      exact ⟨rfl, q, rfl⟩

set_option maxHeartbeats 1000000 in
theorem b10AreaN (lo hi : Nat) (ao : Option Addr) (c n : Nat) (xs : List Cx) (hn : xs.length = n) (hn2 : n ≤ 40) (hx : ∀ z, z ∈ xs → nN z ∧ within (RP z) 6) (w : World) (hs : SlC w lo hi ao xs) :
    Calls Try.prog 12 #[.slice ao n c] w fun e w' => e = .returned (.float .f64 (areaF xs)) ∧ w' = w := by
  have HS := Lib.hid hs
  have HN := Lib.hid hn
  have HX := Lib.hid hx
  have HSF := Lib.hid (fun k (hk : k ≤ n) => (sum_facts hx (by omega) k (by omega)).1)
  have haf := (area_facts hx (by omega)).1
  unfold areaF at haf
  rw [hn] at haf
  obtain ⟨ma, da⟩ := run_fopN (op := .quo) (x := sumF xs n) (y := 4611686018427387904) haf
  have dz : ∀ w : World, w.drewN 0 = w := World.drewN_zero
  have n3 : (n : Int) ≤ 40 := by omega
  unfold areaF
  rw [hn]
  clear hs hn hx haf
  go_enter Try.func12, Try.ntmps12
  go_wp2_with fail
  go_loopw [3, 9] (fun s i wr => ∃ k : Nat, k ≤ n ∧ i = .int .i64 k ∧ s = .float .f64 (sumF xs k) ∧ wr = w) (fun _ i _ => n - (intOf i).toNat)
  case atStart => exact ⟨0, Nat.zero_le _, rfl, rfl, rfl⟩
  case round =>
    obtain ⟨k, hk, rfl, rfl, rfl⟩ := hrel
    by_cases hlt : k < n
    · have k0 : (0 : Int) ≤ (k : Int) := by omega
      have k1 : (k : Int) < (n : Int) := by omega
      obtain ⟨b, hb, _, _, hc⟩ := HS.out (by rw [HN.out]; omega)
      obtain ⟨j, hj⟩ : ∃ j, j = (k + 1) % n := ⟨_, rfl⟩
      have hjn : j < n := by rw [hj]; exact Nat.mod_lt _ (by omega)
      have c1 := hc k (by rw [HN.out]; exact hlt)
      have c2 := hc j (by rw [HN.out]; exact hjn)
      have p1 := HX.out _ (cAt_mem (xs := xs) (show k < xs.length by rw [HN.out]; exact hlt))
      have p2 := HX.out _ (cAt_mem (xs := xs) (show j < xs.length by rw [HN.out]; exact hjn))
      obtain ⟨t, _⟩ := term_facts p1.1 p2.1 p1.2 p2.2
      have hs1 := HSF.out (k + 1) (by omega)
      have hse : sumF xs (k + 1) = fop .add .f64 (sumF xs k) (termF (cAt xs k) (cAt xs j)) := by show fop .add .f64 (sumF xs k) (termF (cAt xs k) (cAt xs ((k + 1) % xs.length))) = _; rw [hj, HN.out]
      have HSE := Lib.hid hse
      rw [hse] at hs1
      obtain ⟨S, hS⟩ : ∃ S, S = sumF xs k := ⟨_, rfl⟩
      rw [← hS] at hs1 HSE ⊢
      obtain ⟨⟨x1, x2⟩, hp⟩ : ∃ z, z = cAt xs k := ⟨_, rfl⟩
      obtain ⟨⟨y1, y2⟩, hq⟩ : ∃ z, z = cAt xs j := ⟨_, rfl⟩
      rw [← hp] at c1 p1 t hs1 HSE
      rw [← hq] at c2 p2 t hs1 HSE
      have v1 : nanB .f32 x1 = false := isN.nan p1.1.1
      have v2 : nanB .f32 x2 = false := isN.nan p1.1.2
      have v3 : nanB .f32 y1 = false := isN.nan p2.1.1
      have v4 : nanB .f32 y2 = false := isN.nan p2.1.2
      obtain ⟨m1, d1⟩ := run_fopN (op := .mul) (x := fcv .f32 .f64 x1) (y := fcv .f32 .f64 y2) t.a
      obtain ⟨m2, d2⟩ := run_fopN (op := .mul) (x := fcv .f32 .f64 x2) (y := fcv .f32 .f64 y1) t.b
      obtain ⟨m3, d3⟩ := run_fopN (op := .sub) (x := fop .mul .f64 (fcv .f32 .f64 x1) (fcv .f32 .f64 y2)) (y := fop .mul .f64 (fcv .f32 .f64 x2) (fcv .f32 .f64 y1)) t.c
      obtain ⟨m4, d4⟩ := run_fopN (op := .add) (x := S) (y := fop .sub .f64 (fop .mul .f64 (fcv .f32 .f64 x1) (fcv .f32 .f64 y2)) (fop .mul .f64 (fcv .f32 .f64 x2) (fcv .f32 .f64 y1))) hs1
      have k2 : (0 : Int) ≤ (j : Int) := by omega
      have k3 : (j : Int) < (n : Int) := by omega
      have k4 : ((k : Int) + 1) % (n : Int) = (j : Int) := by rw [hj]; rfl
      have k5 : ((k : Int) + 1).tmod (n : Int) = (j : Int) := by rw [Int.tmod_eq_emod_of_nonneg (by omega)]; exact k4
      have k6 : ¬ (n : Int) = 0 := by omega
      unfold cV at c1 c2
      subst hb
      clear hc hp hq p1 p2 t hs1 hS hj hse
      go_wp2_with fail
      exact ⟨⟨k + 1, by omega, by go_num, by rw [HSE.out]; rfl, by first | rfl | trivial⟩, meas_upI k1⟩
    · have k1 : ¬ (k : Int) < (n : Int) := by omega
      have hkn : k = n := by omega
      subst hkn
      go_wp2_with fail
      go_ret
      exact ⟨rfl, rfl⟩
end Go.Proofs.Ytkpjhoiaegioeaa

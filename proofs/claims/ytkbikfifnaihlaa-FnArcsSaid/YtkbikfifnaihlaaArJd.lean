/- Arcs: the small functions walked, at numbers. Arcs: valid arcs, places of an arc, how long it is, walked. Arcs: places of an arc, how long it is, walked. Arcs: the arc through three points, walked. Arcs: the rounded corner walked. Arcs: ScaleComplex of the reference, means of points, walked. -/
import Derived.Test.YtkbikfifnaihlaaArJb
import Derived.Test.YtkbikfifnaihlaaArJc
import Derived.Test.YtkbikfifnaihlaaDsF
import Derived.BigQuiet
namespace Go.Proofs.Ytkbikfifnaihlaa
open Go.RowKit Go.Fl

theorem absoluteW {x : Nat} (h : isN .f32 x = true) (w : World) : Calls Try.prog 35 #[.float .f32 x] w fun e w' => e = .returned (.float .f32 (absN x)) ∧ w' = w := by
  have hrm := fun (ts : Array TypeId) (t : TypeId) (w : World) => run_maxF (P := Try.prog) h (neg_R h).1 ts t w
  have e : maxF .f32 x (Op.negFloat .f32 x) = absN x := rfl
  rw [e] at hrm
  clear e h
  go_enter Try.func35, Try.ntmps35
  go_wp2_with fail
  go_ret
  exact ⟨rfl, rfl⟩
theorem crossW {p q : Cx} (h1 : isN .f32 (fop .mul .f32 p.1 q.2) = true) (h2 : isN .f32 (fop .mul .f32 p.2 q.1) = true) (h3 : isN .f32 (crossF p q) = true) (w : World) : Calls Try.prog 21 #[cV p, cV q] w fun e w' => e = .returned (.float .f32 (crossF p q)) ∧ w' = w := by
  obtain ⟨m1, d1⟩ := run_fopN h1
  obtain ⟨m2, d2⟩ := run_fopN h2
  unfold crossF at h3 ⊢
  obtain ⟨m3, d3⟩ := run_fopN h3
  have dz : ∀ w : World, w.drewN 0 = w := World.drewN_zero
  obtain ⟨a, b⟩ := p
  obtain ⟨c, d⟩ := q
  clear h1 h2 h3
  unfold cV
  go_enter Try.func21, Try.ntmps21
  go_wp2_with fail
  go_ret
  exact ⟨rfl, rfl⟩
theorem dotW {p q : Cx} (h1 : isN .f32 (fop .mul .f32 p.1 q.1) = true) (h2 : isN .f32 (fop .mul .f32 p.2 q.2) = true) (h3 : isN .f32 (dotF p q) = true) (w : World) : Calls Try.prog 41 #[cV p, cV q] w fun e w' => e = .returned (.float .f32 (dotF p q)) ∧ w' = w := by
  obtain ⟨m1, d1⟩ := run_fopN h1
  obtain ⟨m2, d2⟩ := run_fopN h2
  unfold dotF at h3 ⊢
  obtain ⟨m3, d3⟩ := run_fopN h3
  have dz : ∀ w : World, w.drewN 0 = w := World.drewN_zero
  obtain ⟨a, b⟩ := p
  obtain ⟨c, d⟩ := q
  clear h1 h2 h3
  unfold cV
  go_enter Try.func41, Try.ntmps41
  go_wp2_with fail
  go_ret
  exact ⟨rfl, rfl⟩
theorem timesW {a b c d : Nat} (h1 : isN .f64 (fop .mul .f64 a c) = true) (h2 : isN .f64 (fop .mul .f64 b d) = true) (h3 : isN .f64 (fop .sub .f64 (fop .mul .f64 a c) (fop .mul .f64 b d)) = true) (h4 : isN .f64 (fop .mul .f64 a d) = true) (h5 : isN .f64 (fop .mul .f64 b c) = true) (h6 : isN .f64 (fop .add .f64 (fop .mul .f64 a d) (fop .mul .f64 b c)) = true) (w : World) :
    Calls Try.prog 63 #[.float .f64 a, .float .f64 b, .float .f64 c, .float .f64 d] w fun e w' => e = .returned (.tuple #[.float .f64 (fop .sub .f64 (fop .mul .f64 a c) (fop .mul .f64 b d)), .float .f64 (fop .add .f64 (fop .mul .f64 a d) (fop .mul .f64 b c))]) ∧ w' = w := by
  obtain ⟨m1, d1⟩ := run_fopN h1
  obtain ⟨m2, d2⟩ := run_fopN h2
  obtain ⟨m3, d3⟩ := run_fopN (op := .sub) h3
  obtain ⟨m4, d4⟩ := run_fopN h4
  obtain ⟨m5, d5⟩ := run_fopN h5
  obtain ⟨m6, d6⟩ := run_fopN (op := .add) h6
  have dz : ∀ w : World, w.drewN 0 = w := World.drewN_zero
  clear h1 h2 h3 h4 h5 h6
  go_enter Try.func63, Try.ntmps63
  go_wp2_with fail
  go_ret2
  exact ⟨rfl, rfl⟩
theorem mulW {x y : Cx} (h : MulN x y) (w : World) : Calls Try.prog 38 #[cV x, cV y] w fun e w' => e = .returned (cV (mulF x y)) ∧ w' = w := by
  have HX := Lib.hid (show nanB .f32 x.1 = false ∧ nanB .f32 x.2 = false from ⟨isN.nan h.xn.1, isN.nan h.xn.2⟩)
  have HY := Lib.hid (show nanB .f32 y.1 = false ∧ nanB .f32 y.2 = false from ⟨isN.nan h.yn.1, isN.nan h.yn.2⟩)
  have HT := Lib.hid (fun w => timesW h.ac h.bd h.u h.ad h.bc h.v w)
  obtain ⟨m1, d1⟩ := run_nar32 (isN.nan h.u) h.nu
  obtain ⟨m2, d2⟩ := run_nar32 (isN.nan h.v) h.nv
  have dz : ∀ w : World, w.drewN 0 = w := World.drewN_zero
  clear h
  unfold mulF
  obtain ⟨U, hU⟩ : ∃ U, U = fop .sub .f64 (fop .mul .f64 (fcv .f32 .f64 x.1) (fcv .f32 .f64 y.1)) (fop .mul .f64 (fcv .f32 .f64 x.2) (fcv .f32 .f64 y.2)) := ⟨_, rfl⟩
  obtain ⟨V, hV⟩ : ∃ V, V = fop .add .f64 (fop .mul .f64 (fcv .f32 .f64 x.1) (fcv .f32 .f64 y.2)) (fop .mul .f64 (fcv .f32 .f64 x.2) (fcv .f32 .f64 y.1)) := ⟨_, rfl⟩
  rw [← hU] at m1 d1 HT ⊢
  rw [← hV] at m2 d2 HT ⊢
  clear hU hV
  go_enter Try.func38, Try.ntmps38
  go_wp2_with fail
  refine (partsR HX.out _).mono ?_
  rintro e1 w1 ⟨rfl, rfl⟩
  go_wp2_with fail
  refine (partsR HY.out _).mono ?_
  rintro e1 w1 ⟨rfl, rfl⟩
  go_wp2_with fail
  refine (HT.out _).mono ?_
  rintro e1 w1 ⟨rfl, rfl⟩
  go_wp2_with fail
  go_ret
  exact ⟨rfl, rfl⟩
theorem conjW (z : Cx) (w : World) : Calls Try.prog 39 #[cV z] w fun e w' => e = .returned (cV (z.1, Op.negFloat .f32 z.2)) ∧ w' = w := by
  obtain ⟨a, b⟩ := z
  unfold cV
  go_enter Try.func39, Try.ntmps39
  go_wp2_with fail
  go_ret
  exact ⟨rfl, rfl⟩
theorem powerOfW {z : Cx} (h : PowN z) (hn : isN .f32 (ppF z) = true) (w : World) : Calls Try.prog 22 #[cV z] w fun e w' => e = .returned (.float .f32 (ppF z)) ∧ w' = w := by
  obtain ⟨m1, d1⟩ := run_nar32 (isN.nan h.num) hn
  have dz : ∀ w : World, w.drewN 0 = w := World.drewN_zero
  have HP := Lib.hid (fun w => powerN h w)
  unfold ppF
  clear h hn
  go_enter Try.func22, Try.ntmps22
  go_wp2_with fail
  refine (HP.out _).mono ?_
  rintro e1 w1 ⟨rfl, rfl⟩
  go_wp2_with fail
  go_ret
  exact ⟨rfl, rfl⟩
theorem angleOfW {z : Cx} (h : AgN z.2 z.1) (w : World) : Calls Try.prog 25 #[cV z] w fun e w' => e = .returned (.float .f32 (agF z.2 z.1)) ∧ w' = w := by
  have HA := Lib.hid (fun w => angleW h w)
  obtain ⟨a, b⟩ := z
  clear h
  unfold cV
  go_enter Try.func25, Try.ntmps25
  go_wp2_with fail
  refine (HA.out _).mono ?_
  rintro e1 w1 ⟨rfl, rfl⟩
  go_wp2_with fail
  go_ret
  exact ⟨rfl, rfl⟩
theorem rootW {x : Nat} (hx : isN .f32 x = true) (hs : FloatKind.f64.format.sqrt (fcv .f32 .f64 x) = some (sqrtK (fcv .f32 .f64 x))) (hn : isN .f64 (sqrtK (fcv .f32 .f64 x)) = true) (hf : isN .f32 (rootF x) = true) (w : World) : Calls Try.prog 42 #[.float .f32 x] w fun e w' => e = .returned (.float .f32 (rootF x)) ∧ w' = w := by
  obtain ⟨m1, d1⟩ := run_wid64 (isN.nan hx)
  obtain ⟨m2, d2⟩ := run_nar32 (isN.nan hn) hf
  have dz : ∀ w : World, w.drewN 0 = w := World.drewN_zero
  have HS := Lib.hid (fun w => mathSqrtR hs w)
  unfold rootF
  clear hx hs hn hf
  go_enter Try.func42, Try.ntmps42
  go_wp2_with fail
  refine (HS.out _).mono ?_
  rintro e1 w1 ⟨rfl, rfl⟩
  go_wp2_with fail
  go_ret
  exact ⟨rfl, rfl⟩
theorem finCxW {z : Cx} (h : nN z) (w : World) : Calls Try.prog 26 #[cV z] w fun e w' => e = .returned (.bool true) ∧ w' = w := by
  have H1 := Lib.hid (fun w => isFinW h.1 w)
  have H2 := Lib.hid (fun w => isFinW h.2 w)
  obtain ⟨a, b⟩ := z
  clear h
  unfold cV
  go_enter Try.func26, Try.ntmps26
  go_wp2_with fail
  refine (H1.out _).mono ?_
  rintro e1 w1 ⟨rfl, rfl⟩
  go_wp2_with fail
  refine (H2.out _).mono ?_
  rintro e1 w1 ⟨rfl, rfl⟩
  go_wp2_with fail
  go_ret
  exact ⟨rfl, rfl⟩
theorem ifPointW {z : Cx} (h : nN z) (w : World) : Calls Try.prog 31 #[cV z] w fun e w' => e = .returned (.tuple #[cV z, .bool true]) ∧ w' = w := by
  have H1 := Lib.hid (fun w => finCxW h w)
  clear h
  go_enter Try.func31, Try.ntmps31
  go_wp2_with fail
  refine (H1.out _).mono ?_
  rintro e1 w1 ⟨rfl, rfl⟩
  go_wp2_with fail
  go_ret2
  exact ⟨rfl, rfl⟩
theorem ifNumberW {x : Nat} (h : isN .f32 x = true) (w : World) : Calls Try.prog 34 #[.float .f32 x] w fun e w' => e = .returned (.tuple #[.float .f32 x, .bool true]) ∧ w' = w := by
  have H1 := Lib.hid (fun w => isFinW h w)
  clear h
  go_enter Try.func34, Try.ntmps34
  go_wp2_with fail
  refine (H1.out _).mono ?_
  rintro e1 w1 ⟨rfl, rfl⟩
  go_wp2_with fail
  go_ret2
  exact ⟨rfl, rfl⟩
theorem unitW {z : Cx} (h : UnitN z) (w : World) : Calls Try.prog 40 #[cV z] w fun e w' => e = .returned (.tuple #[cV (unitF z), .bool true]) ∧ w' = w := by
  have HL := Lib.hid (fun w => longN h.long w)
  have HP := Lib.hid (fun w => ifPointW h.u w)
  obtain ⟨m1, d1⟩ := run_fopN h.u.1
  obtain ⟨m2, d2⟩ := run_fopN h.u.2
  have og := ord_gt0 h.long.num zero32_N.1
  rw [zero32_R, decide_eq_true h.pos] at og
  have dz : ∀ w : World, w.drewN 0 = w := World.drewN_zero
  clear h
  unfold unitF at HP ⊢
  obtain ⟨L, hL⟩ : ∃ L, L = longF z := ⟨_, rfl⟩
  rw [← hL] at HL HP og m1 d1 m2 d2 ⊢
  clear hL
  obtain ⟨a, b⟩ := z
  unfold cV at HL ⊢
  unfold cV at HP
  go_enter Try.func40, Try.ntmps40
  go_wp2_with fail
  refine (HL.out _).mono ?_
  rintro e1 w1 ⟨rfl, rfl⟩
  go_wp2_with fail
  refine (HP.out _).mono ?_
  rintro e1 w1 ⟨rfl, rfl⟩
  go_wp2_with fail
  go_ret2
  exact ⟨rfl, rfl⟩
end Go.Proofs.Ytkbikfifnaihlaa

namespace Go.Fl
open Ieee Go.RowKit
def arcV (m : Cx) (r f t : Nat) : Value := .agg #[cV m, .float .f32 r, .float .f32 f, .float .f32 t]
end Go.Fl
namespace Go.Proofs.Ytkbikfifnaihlaa
open Go.RowKit Go.Fl

set_option maxRecDepth 100000 in
theorem areFinite1 (x : Nat) (w : World) : Calls Try.prog 53 #[.float .f32 x] w fun e w' => e = .returned (.bool (!fin (can .f32 x))) ∧ ∃ n, w' = w.drewN n := by
  go_enter Try.func53, Try.ntmps53
  go_wp2_with (go_at_call 30; refine (implIsFinite _ _).mono ?_; rintro e w' ⟨rfl, n, rfl⟩)
  all_goals
    go_ret
    exact ⟨ret_bool (by simp [*]), _, rfl⟩
set_option maxRecDepth 100000 in
theorem areFinite (xs : List Nat) (v : Value) (w : World) (hs : SlF w v xs) :
    Calls Try.prog 28 #[v] w fun e w' => e = .returned (.bool (xs.all fun x => fin (can .f32 x))) ∧ ∃ n, w' = w.drewN n := by
  have HS := Lib.hid hs
  clear hs
  go_enter Try.func28, Try.ntmps28
  go_wp2_with fail
  refine (containsFunc _ _ (fun _ _ => rfl) (fun x w => areFinite1 x w) xs v _ HS.out).mono ?_
  rintro e w' ⟨rfl, n, rfl⟩
  go_wp2_with fail
  go_ret
  exact ⟨ret_bool (any_not _ _), _, rfl⟩
set_option maxHeartbeats 1000000 in
set_option maxRecDepth 100000 in
theorem validArcW {m : Cx} {r f t : Nat} (hm : nN m) (hr : isN .f32 r = true) (r0 : 0 < R .f32 r) (hf : isN .f32 f = true) (ht : isN .f32 t = true) (w : World) :
    Calls Try.prog 9 #[arcV m r f t] w fun e w' => e = .returned (.bool true) ∧ Below w.heap.size w w' := by
  have H1 := Lib.hid (fun w => finCxW hm w)
  have hab := aboveN hr r0
  have hff := finN hf
  have hft := finN ht
  have H2 : Hid (∀ v w, SlF w v [r] → Calls Try.prog 27 #[v] w fun e w' => e = .returned (.bool true) ∧ ∃ n, w' = w.drewN n) := Lib.hid fun v w hs => by
    have h := areMore [r] v w hs
    simp only [List.all_cons, List.all_nil, hab, Bool.and_true] at h
    exact h
  have H3 : Hid (∀ v w, SlF w v [f, t] → Calls Try.prog 28 #[v] w fun e w' => e = .returned (.bool true) ∧ ∃ n, w' = w.drewN n) := Lib.hid fun v w hs => by
    have h := areFinite [f, t] v w hs
    simp only [List.all_cons, List.all_nil, hff, hft, Bool.and_true] at h
    exact h
  clear hm hr r0 hf ht hab hff hft
  unfold arcV
  go_enter Try.func9, Try.ntmps9
  go_wp2_with fail
  refine (H1.out _).mono ?_
  rintro e w1 ⟨rfl, rfl⟩
  go_wp2_with fail
  refine Calls.mono (H2.out _ _ ?hs) ?_
  case hs => exact slF_new _ [r] _ _ 1 (by simp) (by simp) _ rfl rfl
  rintro e w1 ⟨rfl, n1, rfl⟩
  go_wp2_with fail
  refine Calls.mono (H3.out _ _ ?hs) ?_
  case hs => exact slF_new _ [f, t] _ _ 2 (by simp) (by simp) _ rfl rfl
  rintro e w1 ⟨rfl, n2, rfl⟩
  go_wp2_with fail
  go_ret
  refine ⟨rfl, ?_⟩
  exact below_dr (((Below.refl w.heap.size w).alloc (Nat.le_refl _) _).alloc (by simp) _ |>.alloc (by simp; omega) _) _
end Go.Proofs.Ytkbikfifnaihlaa

namespace Go.Fl
open Ieee Go.RowKit
theorem quiet_of3 {P : Program} {f : FuncId} {args : Array Value} {w : World} {q n : Nat} {v : Value} (h : ∀ w, Calls P f args w fun e w' => e = .returned v ∧ w' = w) :
    Calls P f args (w.drewN (q + n)) fun e w'' => e = .returned v ∧ ∃ m, w'' = w.drewN (q + m) := (h _).mono fun _ _ ⟨he, hw⟩ => ⟨he, n, hw⟩
theorem quiet_of0 {P : Program} {f : FuncId} {args : Array Value} {w : World} {n : Nat} {v : Value} (h : ∀ w, Calls P f args w fun e w' => e = .returned v ∧ w' = w) :
    Calls P f args (w.drewN n) fun e w'' => e = .returned v ∧ ∃ m, w'' = w.drewN m := (h _).mono fun _ _ ⟨he, hw⟩ => ⟨he, n, hw⟩
end Go.Fl
namespace Go.Proofs.Ytkbikfifnaihlaa
open Go.RowKit Go.Fl

set_option maxHeartbeats 1000000 in
set_option maxRecDepth 100000 in
theorem longOfArcW {m : Cx} {r f t : Nat} (hm : nN m) (r0 : 0 < R .f32 r) (hf : isN .f32 f = true) (h : LgN r t) (w : World) :
    Calls Try.prog 13 #[arcV m r f t] w fun e w' => e = .returned (.tuple #[.float .f32 (lgF r t), .bool true]) ∧ Below w.heap.size w w' := by
  have HV := Lib.hid (fun w => validArcW (f := f) hm h.rn r0 hf h.tn w)
  have HA := Lib.hid (fun w => absoluteW h.tn w)
  have HI := Lib.hid (fun w => ifNumberW h.l w)
  obtain ⟨m1, d1⟩ := run_fopN h.p
  have hl := h.l
  unfold lgF at hl HI ⊢
  obtain ⟨m2, d2⟩ := run_fopN hl
  unfold full32 at *
  have dz : ∀ w : World, w.drewN 0 = w := World.drewN_zero
  obtain ⟨L, hL⟩ : ∃ L, L = fop .mul .f32 (fop .mul .f32 r 1086918619) (absN t) := ⟨_, rfl⟩
  rw [← hL] at m2 HI ⊢
  clear h hm r0 hf hl hL
  unfold arcV at *
  go_enter Try.func13, Try.ntmps13
  go_wp2_with fail
  refine (HV.out _).mono ?_
  rintro e w1 ⟨rfl, hb⟩
  have c1 : w1.cell? ⟨w.heap.size, 1, none⟩ = some (.float .f32 r) := (Below.cell (p := ⟨w.heap.size, 1, none⟩) hb (by simp)).trans (by rw [World.cell?_alloc_at _ _ _ _ rfl]; rfl)
  have c3 : w1.cell? ⟨w.heap.size, 3, none⟩ = some (.float .f32 t) := (Below.cell (p := ⟨w.heap.size, 3, none⟩) hb (by simp)).trans (by rw [World.cell?_alloc_at _ _ _ _ rfl]; rfl)
  have HB := Lib.hid (show Below w.heap.size w w1 from (Below.alloc (Below.refl w.heap.size w) (Nat.le_refl _) _).trans (hb.mono (by simp)))
  clear hb
  go_wp2_with fail
  go_quiet (first | (go_at_call 35; first | refine quiet_of3 HA.out | refine quiet_of0 HA.out) | (go_at_call 34; first | refine quiet_of3 HI.out | refine quiet_of0 HI.out))
  go_wp2_with fail
  go_ret2
  exact ⟨rfl, below_dr HB.out _⟩
set_option maxHeartbeats 1000000 in
set_option maxRecDepth 100000 in
theorem arcAtW {m : Cx} {r f t h : Nat} (A : AtN m r f t h) (w : World) :
    Calls Try.prog 12 #[arcV m r f t, .float .f32 h] w fun e w' => e = .returned (.tuple #[cV (arcAtF m r f t h), .bool true]) ∧ Below w.heap.size w w' := by
  have HV := Lib.hid (fun w => validArcW (f := f) A.mn A.rn A.r0 A.fn A.tn w)
  have HH := Lib.hid (fun w => isFinW A.hn w)
  have HPH := Lib.hid (fun w => phasorI A.ph w)
  have HSC := Lib.hid (fun w => scaleN A.sc w)
  have HPL := Lib.hid (fun w => plusN (a := m) A.z w)
  have HI := Lib.hid (fun w => ifPointW A.z w)
  obtain ⟨m1, d1⟩ := run_fopN A.p
  have hg := A.g
  obtain ⟨m3, d3⟩ := run_wid64 (isN.nan A.g)
  have eF : arcAtF m r f t h = plusF m (scaleF (phF denI (fcv .f32 .f64 (atG f t h))) r) := rfl
  rw [← eF] at HPL
  clear eF
  obtain ⟨G, hG⟩ : ∃ G, G = atG f t h := ⟨_, rfl⟩
  rw [← hG] at m3 d3 hg HPH HSC HPL
  have m2 : ∀ w, mop .add .f32 f (fop .mul .f32 h t) w = G := fun w => by rw [hG]; exact (run_fopN (op := .add) A.g).1 w
  have d2 : mdr .add .f32 f (fop .mul .f32 h t) = 0 := (run_fopN (op := .add) A.g).2
  obtain ⟨P, hP⟩ : ∃ P, P = phF denI (fcv .f32 .f64 G) := ⟨_, rfl⟩
  rw [← hP] at HPH HSC HPL
  obtain ⟨S, hS⟩ : ∃ S, S = scaleF P r := ⟨_, rfl⟩
  rw [← hS] at HSC HPL
  obtain ⟨Z, hZ⟩ : ∃ Z, Z = arcAtF m r f t h := ⟨_, rfl⟩
  rw [← hZ] at HPL HI ⊢
  have dz : ∀ w : World, w.drewN 0 = w := World.drewN_zero
  clear A hG hP hS hZ hg
  unfold arcV at *
  go_enter Try.func12, Try.ntmps12
  go_wp2_with fail
  refine (HV.out _).mono ?_
  rintro e w1 ⟨rfl, hb⟩
  have c0 : w1.cell? ⟨w.heap.size, 0, none⟩ = some (cV m) := (Below.cell (p := ⟨w.heap.size, 0, none⟩) hb (by simp)).trans (by rw [World.cell?_alloc_at _ _ _ _ rfl]; rfl)
  have c1 : w1.cell? ⟨w.heap.size, 1, none⟩ = some (.float .f32 r) := (Below.cell (p := ⟨w.heap.size, 1, none⟩) hb (by simp)).trans (by rw [World.cell?_alloc_at _ _ _ _ rfl]; rfl)
  have c2 : w1.cell? ⟨w.heap.size, 2, none⟩ = some (.float .f32 f) := (Below.cell (p := ⟨w.heap.size, 2, none⟩) hb (by simp)).trans (by rw [World.cell?_alloc_at _ _ _ _ rfl]; rfl)
  have c3 : w1.cell? ⟨w.heap.size, 3, none⟩ = some (.float .f32 t) := (Below.cell (p := ⟨w.heap.size, 3, none⟩) hb (by simp)).trans (by rw [World.cell?_alloc_at _ _ _ _ rfl]; rfl)
  have HB := Lib.hid (show Below w.heap.size w w1 from (Below.alloc (Below.refl w.heap.size w) (Nat.le_refl _) _).trans (hb.mono (by simp)))
  clear hb
  go_wp2_with fail
  refine (HH.out _).mono ?_
  rintro e w2 ⟨rfl, rfl⟩
  go_wp2_with fail
  go_quiet (first | (go_at_call 33; first | refine quiet_of3 HPH.out | refine quiet_of0 HPH.out) | (go_at_call 32; first | refine quiet_of3 HSC.out | refine quiet_of0 HSC.out) | (go_at_call 23; first | refine quiet_of3 HPL.out | refine quiet_of0 HPL.out) | (go_at_call 31; first | refine quiet_of3 HI.out | refine quiet_of0 HI.out))
  go_wp2_with fail
  go_ret2
  exact ⟨rfl, below_dr HB.out _⟩
end Go.Proofs.Ytkbikfifnaihlaa

namespace Go.Proofs.Ytkbikfifnaihlaa
open Go.RowKit Go.Fl

set_option maxHeartbeats 4000000 in
set_option maxRecDepth 100000 in
theorem arcThroughW {a b c : Cx} (A : ArcN a b c) (w : World) :
    Calls Try.prog 8 #[cV a, cV b, cV c] w fun e w' => e = .returned (.tuple #[arcV (midF a b c) (arR a b c) (arF a b c) (arT a b c), .bool true]) ∧ Below w.heap.size w w' := by
  have HV := Lib.hid (fun w => validArcW (f := arF a b c) (t := arT a b c) A.mid.mid A.long.num A.pos A.g1.f A.t.t w)
  have HAP : Hid (∀ nb W, (∀ i, i < 3 → W.cell? ⟨nb, i, none⟩ = some (cV (cAt [a, b, c] i))) → Calls Try.prog 19 #[.slice (some ⟨nb, 0, none⟩) 3 3] W fun e w' => e = .returned (.bool true) ∧ ∃ n, w' = W.drewN n) := Lib.hid fun nb W hs => by
    have h := arePoints nb (nb + 1) (some ⟨nb, 0, none⟩) 3 [a, b, c] (by simp) W (fun _ => ⟨nb, rfl, Nat.le_refl _, Nat.lt_succ_self _, hs⟩)
    simp only [List.all_cons, List.all_nil, okN A.na, okN A.nb, okN A.nc, Bool.and_true] at h
    exact h
  have M := A.mid
  obtain ⟨P, hP⟩ : ∃ t, t = minusF b a := ⟨_, rfl⟩
  obtain ⟨Q, hQ⟩ : ∃ t, t = minusF c a := ⟨_, rfl⟩
  obtain ⟨F, hF⟩ : ∃ t, t = arF a b c := ⟨_, rfl⟩
  obtain ⟨E, hE⟩ : ∃ t, t = arE a b c := ⟨_, rfl⟩
  obtain ⟨L, hL⟩ : ∃ t, t = arR a b c := ⟨_, rfl⟩
  obtain ⟨T, hT⟩ : ∃ t, t = arT a b c := ⟨_, rfl⟩
  obtain ⟨Z, hZ⟩ : ∃ t, t = midF a b c := ⟨_, rfl⟩
  obtain ⟨W1, hW1⟩ : ∃ t, t = minusF a Z := ⟨_, rfl⟩
  obtain ⟨W2, hW2⟩ : ∃ t, t = minusF c Z := ⟨_, rfl⟩
  obtain ⟨am, ham⟩ : ∃ t, t = amF P Q := ⟨_, rfl⟩
  obtain ⟨cr, hcr⟩ : ∃ t, t = crossF P Q := ⟨_, rfl⟩
  obtain ⟨pp, hpp⟩ : ∃ t, t = ppF P := ⟨_, rfl⟩
  obtain ⟨pq, hpq⟩ : ∃ t, t = ppF Q := ⟨_, rfl⟩
  obtain ⟨X, hX⟩ : ∃ t, t = axN P Q := ⟨_, rfl⟩
  obtain ⟨Y, hY⟩ : ∃ t, t = ayN P Q := ⟨_, rfl⟩
  obtain ⟨O, hO⟩ : ∃ t, t = offF P Q := ⟨_, rfl⟩
  obtain ⟨t0, ht0⟩ : ∃ t, t = fop .sub .f32 E F := ⟨_, rfl⟩
  have HP : Hid (∀ w, Calls Try.prog 20 #[cV b, cV a] w fun x w' => x = .returned (cV P) ∧ w' = w) := Lib.hid (by rw [hP]; exact fun w => minusN M.p w)
  have HQ : Hid (∀ w, Calls Try.prog 20 #[cV c, cV a] w fun x w' => x = .returned (cV Q) ∧ w' = w) := Lib.hid (by rw [hQ]; exact fun w => minusN M.q w)
  have HC : Hid (∀ w, Calls Try.prog 21 #[cV P, cV Q] w fun x w' => x = .returned (.float .f32 cr) ∧ w' = w) := Lib.hid (by rw [hcr, hP, hQ]; exact fun w => crossW M.c1 M.c2 M.c3 w)
  have HPP : Hid (∀ w, Calls Try.prog 22 #[cV P] w fun x w' => x = .returned (.float .f32 pp) ∧ w' = w) := Lib.hid (by rw [hpp, hP]; exact fun w => powerOfW M.pp M.ppn w)
  have HPQ : Hid (∀ w, Calls Try.prog 22 #[cV Q] w fun x w' => x = .returned (.float .f32 pq) ∧ w' = w) := Lib.hid (by rw [hpq, hQ]; exact fun w => powerOfW M.pq M.pqn w)
  have HMI : Hid (∀ w, Calls Try.prog 23 #[cV a, cV O] w fun x w' => x = .returned (cV Z) ∧ w' = w) := Lib.hid (by rw [hO, hZ, hP, hQ]; exact fun w => plusN (a := a) (b := offF (minusF b a) (minusF c a)) M.mid w)
  have HW1 : Hid (∀ w, Calls Try.prog 20 #[cV a, cV Z] w fun x w' => x = .returned (cV W1) ∧ w' = w) := Lib.hid (by rw [hW1, hZ]; exact fun w => minusN A.w1 w)
  have HW2 : Hid (∀ w, Calls Try.prog 20 #[cV c, cV Z] w fun x w' => x = .returned (cV W2) ∧ w' = w) := Lib.hid (by rw [hW2, hZ]; exact fun w => minusN A.w2 w)
  have HL : Hid (∀ w, Calls Try.prog 24 #[cV W1] w fun x w' => x = .returned (.float .f32 L) ∧ w' = w) := Lib.hid (by rw [hW1, hL, hZ]; exact fun w => longN A.long w)
  have HG1 : Hid (∀ w, Calls Try.prog 25 #[cV W1] w fun x w' => x = .returned (.float .f32 F) ∧ w' = w) := Lib.hid (by rw [hW1, hF, hZ]; exact fun w => angleOfW A.g1 w)
  have HG2 : Hid (∀ w, Calls Try.prog 25 #[cV W2] w fun x w' => x = .returned (.float .f32 E) ∧ w' = w) := Lib.hid (by rw [hW2, hE, hZ]; exact fun w => angleOfW A.g2 w)
  have HVV : Hid (∀ w, Calls Try.prog 9 #[arcV Z L F T] w fun e w' => e = .returned (.bool true) ∧ Below w.heap.size w w') := Lib.hid (by rw [hZ, hL, hF, hT]; exact HV.out)
  have ham' : amF (minusF b a) (minusF c a) = am := by rw [ham, hP, hQ]
  have hm : isN .f32 am = true := by rw [← ham']; exact M.m
  have hnz : R .f32 am ≠ 0 := by rw [← ham']; exact A.nz
  have hts : isN .f32 t0 = true := by rw [ht0, hE, hF]; exact A.t.s
  have hTn : isN .f32 T = true := by rw [hT]; exact A.t.t
  have hTe : T = turF am E F := by rw [hT, hE, hF, ← ham']; rfl
  have x1 := (run_fopN M.x1).1
  have e1 := (run_fopN M.x1).2
  have x2 := (run_fopN M.x2).1
  have e2 := (run_fopN M.x2).2
  have y1 := (run_fopN M.y1).1
  have f1 := (run_fopN M.y1).2
  have y2 := (run_fopN M.y2).1
  have f2 := (run_fopN M.y2).2
  rw [← hP, ← hQ] at x1 x2 y1 y2 e1 e2 f1 f2
  rw [← hpp] at x1 y2 e1 f2
  rw [← hpq] at x2 y1 e2 f1
  have x3 : (∀ w, mop .sub .f32 (fop .mul .f32 Q.2 pp) (fop .mul .f32 P.2 pq) w = X) ∧ mdr .sub .f32 (fop .mul .f32 Q.2 pp) (fop .mul .f32 P.2 pq) = 0 := by rw [hX, hpp, hpq, hP, hQ]; exact run_fopN (op := .sub) M.x3
  have y3 : (∀ w, mop .sub .f32 (fop .mul .f32 P.1 pq) (fop .mul .f32 Q.1 pp) w = Y) ∧ mdr .sub .f32 (fop .mul .f32 P.1 pq) (fop .mul .f32 Q.1 pp) = 0 := by rw [hY, hpp, hpq, hP, hQ]; exact run_fopN (op := .sub) M.y3
  have q1 : (∀ w, mop .quo .f32 X am w = O.1) ∧ mdr .quo .f32 X am = 0 := by rw [hO, hX, ham, hP, hQ]; exact run_fopN (op := .quo) M.o.1
  have q2 : (∀ w, mop .quo .f32 Y am w = O.2) ∧ mdr .quo .f32 Y am = 0 := by rw [hO, hY, ham, hP, hQ]; exact run_fopN (op := .quo) M.o.2
  have m1 : (∀ w, mop .mul .f32 1073741824 cr w = am) ∧ mdr .mul .f32 1073741824 cr = 0 := by rw [ham, hcr, hP, hQ]; exact run_fopN (op := .mul) M.m
  have s1 : (∀ w, mop .sub .f32 E F w = t0) ∧ mdr .sub .f32 E F = 0 := by rw [ht0]; exact run_fopN (op := .sub) (by rw [← ht0]; exact hts)
  obtain ⟨x3, e3⟩ := x3
  obtain ⟨y3, f3⟩ := y3
  obtain ⟨q1, g1⟩ := q1
  obtain ⟨q2, g2⟩ := q2
  obtain ⟨m1, d1⟩ := m1
  obtain ⟨s1, k1⟩ := s1
  unfold turF at hTe
  rw [← ht0] at hTe
  have oe := ord_eq0 hm zero32_N.1
  have og := ord_gt0 hm zero32_N.1
  have ol := ord_lt0 hm zero32_N.1
  have tg := ord_gt0 hts zero32_N.1
  have tl := ord_lt0 hts zero32_N.1
  rw [zero32_R] at oe og ol tg tl
  rw [decide_eq_false hnz] at oe
  have dz : ∀ w : World, w.drewN 0 = w := World.drewN_zero
  have HTe := Lib.hid hTe
  have HTn := Lib.hid hTn
  have HNZ := Lib.hid hnz
  rw [← hZ, ← hL, ← hF, ← hT]
  clear A M HV hP hQ hF hE hL hT hZ hW1 hW2 ham hcr hpp hpq hX hY hO ht0 ham' hm hnz hts hTn hTe
  unfold arcV at *
  unfold cV at HP HQ HC HPP HPQ HMI HW1 HW2 HL HG1 HG2 HVV ⊢
  go_enter Try.func8, Try.ntmps8
  go_wp2_with fail
  refine Calls.mono (HAP.out _ _ ?hs) ?_
  case hs =>
    intro i hi
    rw [World.cell?_alloc_at _ _ _ _ (by simp)]
    have : i = 0 ∨ i = 1 ∨ i = 2 := by omega
    rcases this with rfl | rfl | rfl <;> rfl
  rintro e w0 ⟨rfl, n, rfl⟩
  go_wp2_with fail
  refine (HP.out _).mono ?_
  rintro e w1 ⟨rfl, rfl⟩
  go_wp2_with fail
  refine (HQ.out _).mono ?_
  rintro e w1 ⟨rfl, rfl⟩
  go_wp2_with fail
  refine (HC.out _).mono ?_
  rintro e w1 ⟨rfl, rfl⟩
  go_wp2_with fail
  refine (HPP.out _).mono ?_
  rintro e w1 ⟨rfl, rfl⟩
  go_wp2_with fail
  refine (HPQ.out _).mono ?_
  rintro e w1 ⟨rfl, rfl⟩
  go_wp2_with fail
  refine (HPQ.out _).mono ?_
  rintro e w1 ⟨rfl, rfl⟩
  go_wp2_with fail
  refine (HPP.out _).mono ?_
  rintro e w1 ⟨rfl, rfl⟩
  go_wp2_with fail
  refine (HMI.out _).mono ?_
  rintro e w1 ⟨rfl, rfl⟩
  go_wp2_with fail
  refine (HW1.out _).mono ?_
  rintro e w1 ⟨rfl, rfl⟩
  go_wp2_with fail
  refine (HL.out _).mono ?_
  rintro e w1 ⟨rfl, rfl⟩
  go_wp2_with fail
  refine (HG1.out _).mono ?_
  rintro e w1 ⟨rfl, rfl⟩
  go_wp2_with fail
  go_quiet (first | (go_at_call 20; first | refine quiet_of3 HW2.out | refine quiet_of0 HW2.out) | (go_at_call 25; first | refine quiet_of3 HG2.out | refine quiet_of0 HG2.out))
  have hcase : (0 < R .f32 am ∧ 0 < R .f32 t0) ∨ (0 < R .f32 am ∧ ¬ 0 < R .f32 t0) ∨ (R .f32 am < 0 ∧ R .f32 t0 < 0) ∨ (R .f32 am < 0 ∧ ¬ R .f32 t0 < 0) := by
    have h := HNZ.out
    by_cases k1 : 0 < R .f32 am
    · by_cases k2 : 0 < R .f32 t0
      · exact .inl ⟨k1, k2⟩
      · exact .inr (.inl ⟨k1, k2⟩)
    · have k3 : R .f32 am < 0 := by grind
      by_cases k2 : R .f32 t0 < 0
      · exact .inr (.inr (.inl ⟨k3, k2⟩))
      · exact .inr (.inr (.inr ⟨k3, k2⟩))
  have hTe := HTe.out
  have hTn := HTn.out
  rcases hcase with ⟨k1, k2⟩ | ⟨k1, k2⟩ | ⟨k1, k2⟩ | ⟨k1, k2⟩
  · rw [if_neg (fun q => q.2 k2), if_neg (fun q => absurd q.1 (by grind))] at hTe
    rw [decide_eq_true k1] at og
    rw [decide_eq_true k2] at tg
    rw [decide_eq_false (show ¬ R .f32 am < 0 by grind)] at ol
    subst hTe
    clear k1 k2 HNZ HTe HTn hTn tl
    go_wp2_with fail
    refine (HVV.out _).mono ?_
    rintro e w5 ⟨rfl, hb⟩
    have ho : OwnC w5 w.heap.size _ _ := OwnC.below ((((OwnC.new rfl).alloc _).alloc _).drewN _) hb (by simp; omega)
    have hx : OwnC w5 (w.heap.size + 1 + 1) _ _ := OwnC.below ((OwnC.new (by simp)).drewN _) hb (by simp)
    have a0 := hx.cell 0
    have a1 := hx.cell 1
    have a2 := hx.cell 2
    have a3 := hx.cell 3
    have b0 := ho.cell 0
    have b1 := ho.cell 1
    have b2 := ho.cell 2
    have b3 := ho.cell 3
    have f0 := ho.free 0
    have f1 := ho.free 1
    have f2 := ho.free 2
    have f3 := ho.free 3
    have HB := Lib.hid (show Below w.heap.size w w5 from (below_dr (((Below.refl w.heap.size w).alloc (Nat.le_refl _) _).alloc (by simp) _ |>.alloc (by simp; omega) _) _).trans (hb.mono (by simp; omega)))
    have HO := Lib.hid ho
    clear hb ho hx
    go_wp2_with fail
    refine bodyPost_ret (v := .tuple #[.agg #[.complex .f32 Z.1 Z.2, .float .f32 L, .float .f32 F, .float .f32 T], .bool true]) (by simp [results, Try.results8, go_sem, *]) rfl ?_
    exact ⟨rfl, (((HB.out.setCell (Nat.le_refl _) _).setCell (Nat.le_refl _) _).setCell (Nat.le_refl _) _).setCell (Nat.le_refl _) _⟩
  · rw [if_pos ⟨k1, k2⟩] at hTe
    rw [decide_eq_true k1] at og
    rw [decide_eq_false k2] at tg
    rw [decide_eq_false (show ¬ R .f32 am < 0 by grind)] at ol
    rw [hTe] at hTn
    obtain ⟨z1, z2⟩ := run_fopN (op := .add) hTn
    rw [← hTe] at z1
    clear k1 k2 HNZ HTe HTn hTn hTe tl
    go_wp2_with fail
    refine (HVV.out _).mono ?_
    rintro e w5 ⟨rfl, hb⟩
    have ho : OwnC w5 w.heap.size _ _ := OwnC.below ((((OwnC.new rfl).alloc _).alloc _).drewN _) hb (by simp; omega)
    have hx : OwnC w5 (w.heap.size + 1 + 1) _ _ := OwnC.below ((OwnC.new (by simp)).drewN _) hb (by simp)
    have a0 := hx.cell 0
    have a1 := hx.cell 1
    have a2 := hx.cell 2
    have a3 := hx.cell 3
    have b0 := ho.cell 0
    have b1 := ho.cell 1
    have b2 := ho.cell 2
    have b3 := ho.cell 3
    have f0 := ho.free 0
    have f1 := ho.free 1
    have f2 := ho.free 2
    have f3 := ho.free 3
    have HB := Lib.hid (show Below w.heap.size w w5 from (below_dr (((Below.refl w.heap.size w).alloc (Nat.le_refl _) _).alloc (by simp) _ |>.alloc (by simp; omega) _) _).trans (hb.mono (by simp; omega)))
    have HO := Lib.hid ho
    clear hb ho hx
    go_wp2_with fail
    refine bodyPost_ret (v := .tuple #[.agg #[.complex .f32 Z.1 Z.2, .float .f32 L, .float .f32 F, .float .f32 T], .bool true]) (by simp [results, Try.results8, go_sem, *]) rfl ?_
    exact ⟨rfl, (((HB.out.setCell (Nat.le_refl _) _).setCell (Nat.le_refl _) _).setCell (Nat.le_refl _) _).setCell (Nat.le_refl _) _⟩
  · rw [if_neg (fun q => absurd q.1 (by grind)), if_neg (fun q => q.2 k2)] at hTe
    rw [decide_eq_false (show ¬ 0 < R .f32 am by grind)] at og
    rw [decide_eq_true k1] at ol
    rw [decide_eq_true k2] at tl
    subst hTe
    clear k1 k2 HNZ HTe HTn hTn tg
    go_wp2_with fail
    refine (HVV.out _).mono ?_
    rintro e w5 ⟨rfl, hb⟩
    have ho : OwnC w5 w.heap.size _ _ := OwnC.below ((((OwnC.new rfl).alloc _).alloc _).drewN _) hb (by simp; omega)
    have hx : OwnC w5 (w.heap.size + 1 + 1) _ _ := OwnC.below ((OwnC.new (by simp)).drewN _) hb (by simp)
    have a0 := hx.cell 0
    have a1 := hx.cell 1
    have a2 := hx.cell 2
    have a3 := hx.cell 3
    have b0 := ho.cell 0
    have b1 := ho.cell 1
    have b2 := ho.cell 2
    have b3 := ho.cell 3
    have f0 := ho.free 0
    have f1 := ho.free 1
    have f2 := ho.free 2
    have f3 := ho.free 3
    have HB := Lib.hid (show Below w.heap.size w w5 from (below_dr (((Below.refl w.heap.size w).alloc (Nat.le_refl _) _).alloc (by simp) _ |>.alloc (by simp; omega) _) _).trans (hb.mono (by simp; omega)))
    have HO := Lib.hid ho
    clear hb ho hx
    go_wp2_with fail
    refine bodyPost_ret (v := .tuple #[.agg #[.complex .f32 Z.1 Z.2, .float .f32 L, .float .f32 F, .float .f32 T], .bool true]) (by simp [results, Try.results8, go_sem, *]) rfl ?_
    exact ⟨rfl, (((HB.out.setCell (Nat.le_refl _) _).setCell (Nat.le_refl _) _).setCell (Nat.le_refl _) _).setCell (Nat.le_refl _) _⟩
  · rw [if_neg (fun q => absurd q.1 (by grind)), if_pos ⟨k1, k2⟩] at hTe
    rw [decide_eq_false (show ¬ 0 < R .f32 am by grind)] at og
    rw [decide_eq_true k1] at ol
    rw [decide_eq_false k2] at tl
    rw [hTe] at hTn
    obtain ⟨z1, z2⟩ := run_fopN (op := .sub) hTn
    rw [← hTe] at z1
    clear k1 k2 HNZ HTe HTn hTn hTe tg
    go_wp2_with fail
    refine (HVV.out _).mono ?_
    rintro e w5 ⟨rfl, hb⟩
    have ho : OwnC w5 w.heap.size _ _ := OwnC.below ((((OwnC.new rfl).alloc _).alloc _).drewN _) hb (by simp; omega)
    have hx : OwnC w5 (w.heap.size + 1 + 1) _ _ := OwnC.below ((OwnC.new (by simp)).drewN _) hb (by simp)
    have a0 := hx.cell 0
    have a1 := hx.cell 1
    have a2 := hx.cell 2
    have a3 := hx.cell 3
    have b0 := ho.cell 0
    have b1 := ho.cell 1
    have b2 := ho.cell 2
    have b3 := ho.cell 3
    have f0 := ho.free 0
    have f1 := ho.free 1
    have f2 := ho.free 2
    have f3 := ho.free 3
    have HB := Lib.hid (show Below w.heap.size w w5 from (below_dr (((Below.refl w.heap.size w).alloc (Nat.le_refl _) _).alloc (by simp) _ |>.alloc (by simp; omega) _) _).trans (hb.mono (by simp; omega)))
    have HO := Lib.hid ho
    clear hb ho hx
    go_wp2_with fail
    refine bodyPost_ret (v := .tuple #[.agg #[.complex .f32 Z.1 Z.2, .float .f32 L, .float .f32 F, .float .f32 T], .bool true]) (by simp [results, Try.results8, go_sem, *]) rfl ?_
    exact ⟨rfl, (((HB.out.setCell (Nat.le_refl _) _).setCell (Nat.le_refl _) _).setCell (Nat.le_refl _) _).setCell (Nat.le_refl _) _⟩
end Go.Proofs.Ytkbikfifnaihlaa

namespace Go.Proofs.Ytkbikfifnaihlaa
open Go.RowKit Go.Fl

set_option maxHeartbeats 4000000 in
set_option maxRecDepth 100000 in
theorem roundCornerW {r : Nat} (A : CoR r) (B : ArcN (coPa r) (coPb r) (coPc r)) (w : World) :
    Calls Try.prog 16 #[cV (fourB, 0), cV (0, 0), cV (0, fourB), .float .f32 r] w fun e w' => e = .returned (.tuple #[arcV (midF (coPa r) (coPb r) (coPc r)) (arR (coPa r) (coPb r) (coPc r)) (arF (coPa r) (coPb r) (coPc r)) (arT (coPa r) (coPb r) (coPc r)), .bool true]) ∧ Below w.heap.size w w' := by
  have C := coN
  have n0 : nN (0, 0) := ⟨zero32_N.1, zero32_N.1⟩
  have n1 : nN (fourB, 0) := ⟨by decide +kernel, zero32_N.1⟩
  have n2 : nN (0, fourB) := ⟨zero32_N.1, by decide +kernel⟩
  have HAP : Hid (∀ nb W, (∀ i, i < 3 → W.cell? ⟨nb, i, none⟩ = some (cV (cAt [(fourB, 0), (0, 0), (0, fourB)] i))) → Calls Try.prog 19 #[.slice (some ⟨nb, 0, none⟩) 3 3] W fun e w' => e = .returned (.bool true) ∧ ∃ n, w' = W.drewN n) := Lib.hid fun nb W hs => by
    have h := arePoints nb (nb + 1) (some ⟨nb, 0, none⟩) 3 [(fourB, 0), (0, 0), (0, fourB)] (by simp) W (fun _ => ⟨nb, rfl, Nat.le_refl _, Nat.lt_succ_self _, hs⟩)
    simp only [List.all_cons, List.all_nil, okN n0, okN n1, okN n2, Bool.and_true] at h
    exact h
  have hab := aboveN A.rn A.r0
  have HAM : Hid (∀ v w, SlF w v [r] → Calls Try.prog 27 #[v] w fun e w' => e = .returned (.bool true) ∧ ∃ n, w' = w.drewN n) := Lib.hid fun v w hs => by
    have h := areMore [r] v w hs
    simp only [List.all_cons, List.all_nil, hab, Bool.and_true] at h
    exact h
  obtain ⟨U, hU⟩ : ∃ t, t = coU := ⟨_, rfl⟩
  obtain ⟨V, hV⟩ : ∃ t, t = coV := ⟨_, rfl⟩
  obtain ⟨W, hW⟩ : ∃ t, t = coW := ⟨_, rfl⟩
  obtain ⟨S, hS⟩ : ∃ t, t = coS := ⟨_, rfl⟩
  obtain ⟨a, ha⟩ : ∃ t, t = coA := ⟨_, rfl⟩
  obtain ⟨c, hc⟩ : ∃ t, t = coC := ⟨_, rfl⟩
  obtain ⟨D, hD⟩ : ∃ t, t = dotF coU coV := ⟨_, rfl⟩
  obtain ⟨k, hk⟩ : ∃ t, t = coK := ⟨_, rfl⟩
  obtain ⟨m, hm⟩ : ∃ t, t = coM := ⟨_, rfl⟩
  obtain ⟨h, hh⟩ : ∃ t, t = coH r := ⟨_, rfl⟩
  obtain ⟨x, hx⟩ : ∃ t, t = coX r := ⟨_, rfl⟩
  obtain ⟨rt, hrt⟩ : ∃ t, t = rootF (coX r) := ⟨_, rfl⟩
  obtain ⟨d, hd⟩ : ∃ t, t = coD r := ⟨_, rfl⟩
  obtain ⟨q, hq⟩ : ∃ t, t = fop .quo .f32 (fop .mul .f32 r (fop .sub .f32 1073741824 coK)) coM := ⟨_, rfl⟩
  obtain ⟨ua, hua⟩ : ∃ t, t = scaleF coU (coH r) := ⟨_, rfl⟩
  obtain ⟨ub, hub⟩ : ∃ t, t = scaleF coW (coD r) := ⟨_, rfl⟩
  obtain ⟨uc, huc⟩ : ∃ t, t = scaleF coV (coH r) := ⟨_, rfl⟩
  obtain ⟨pa, hpa⟩ : ∃ t, t = coPa r := ⟨_, rfl⟩
  obtain ⟨pb, hpb⟩ : ∃ t, t = coPb r := ⟨_, rfl⟩
  obtain ⟨pc, hpc⟩ : ∃ t, t = coPc r := ⟨_, rfl⟩
  have H1 : Hid (∀ w, Calls Try.prog 20 #[cV (fourB, 0), cV (0, 0)] w fun e w' => e = .returned (cV a) ∧ w' = w) := Lib.hid (by rw [ha]; exact fun w => minusN C.a.zn w)
  have H2 : Hid (∀ w, Calls Try.prog 20 #[cV (0, fourB), cV (0, 0)] w fun e w' => e = .returned (cV c) ∧ w' = w) := Lib.hid (by rw [hc]; exact fun w => minusN C.c.zn w)
  have H3 : Hid (∀ w, Calls Try.prog 40 #[cV a] w fun e w' => e = .returned (.tuple #[cV U, .bool true]) ∧ w' = w) := Lib.hid (by rw [ha, hU]; exact fun w => unitW C.a w)
  have H4 : Hid (∀ w, Calls Try.prog 40 #[cV c] w fun e w' => e = .returned (.tuple #[cV V, .bool true]) ∧ w' = w) := Lib.hid (by rw [hc, hV]; exact fun w => unitW C.c w)
  have H5 : Hid (∀ w, Calls Try.prog 41 #[cV U, cV V] w fun e w' => e = .returned (.float .f32 D) ∧ w' = w) := Lib.hid (by rw [hU, hV, hD]; exact fun w => dotW C.d1 C.d2 C.d3 w)
  have H6 : Hid (∀ w, Calls Try.prog 21 #[cV U, cV V] w fun e w' => e = .returned (.float .f32 m) ∧ w' = w) := Lib.hid (by rw [hU, hV, hm]; exact fun w => crossW C.c1 C.c2 C.m w)
  have H7 : Hid (∀ w, Calls Try.prog 35 #[.float .f32 q] w fun e w' => e = .returned (.float .f32 h) ∧ w' = w) := Lib.hid (by rw [hq, hh]; exact fun w => absoluteW A.h2 w)
  have H8 : Hid (∀ w, Calls Try.prog 23 #[cV U, cV V] w fun e w' => e = .returned (cV S) ∧ w' = w) := Lib.hid (by rw [hU, hV, hS]; exact fun w => plusN C.s.zn w)
  have H9 : Hid (∀ w, Calls Try.prog 40 #[cV S] w fun e w' => e = .returned (.tuple #[cV W, .bool true]) ∧ w' = w) := Lib.hid (by rw [hS, hW]; exact fun w => unitW C.s w)
  have H10 : Hid (∀ w, Calls Try.prog 42 #[.float .f32 x] w fun e w' => e = .returned (.float .f32 rt) ∧ w' = w) := Lib.hid (by rw [hx, hrt]; exact fun w => rootW A.x A.rt A.rtn A.rtf w)
  have H11 : Hid (∀ w, Calls Try.prog 32 #[cV U, .float .f32 h] w fun e w' => e = .returned (cV ua) ∧ w' = w) := Lib.hid (by rw [hU, hh, hua]; exact fun w => scaleN A.ua w)
  have H12 : Hid (∀ w, Calls Try.prog 23 #[cV (0, 0), cV ua] w fun e w' => e = .returned (cV pa) ∧ w' = w) := Lib.hid (by rw [hua, hpa]; exact fun w => plusN A.pa.n w)
  have H13 : Hid (∀ w, Calls Try.prog 32 #[cV W, .float .f32 d] w fun e w' => e = .returned (cV ub) ∧ w' = w) := Lib.hid (by rw [hW, hd, hub]; exact fun w => scaleN A.ub w)
  have H14 : Hid (∀ w, Calls Try.prog 23 #[cV (0, 0), cV ub] w fun e w' => e = .returned (cV pb) ∧ w' = w) := Lib.hid (by rw [hub, hpb]; exact fun w => plusN A.pb.n w)
  have H15 : Hid (∀ w, Calls Try.prog 32 #[cV V, .float .f32 h] w fun e w' => e = .returned (cV uc) ∧ w' = w) := Lib.hid (by rw [hV, hh, huc]; exact fun w => scaleN A.uc w)
  have H16 : Hid (∀ w, Calls Try.prog 23 #[cV (0, 0), cV uc] w fun e w' => e = .returned (cV pc) ∧ w' = w) := Lib.hid (by rw [huc, hpc]; exact fun w => plusN A.pc.n w)
  have H17 := Lib.hid (fun w => arcThroughW B w)
  rw [← hpa, ← hpb, ← hpc] at H17 ⊢
  obtain ⟨Z, hZ⟩ : ∃ t, t = midF pa pb pc := ⟨_, rfl⟩
  obtain ⟨z1, hz1⟩ : ∃ t, t = arR pa pb pc := ⟨_, rfl⟩
  obtain ⟨z2, hz2⟩ : ∃ t, t = arF pa pb pc := ⟨_, rfl⟩
  obtain ⟨z3, hz3⟩ : ∃ t, t = arT pa pb pc := ⟨_, rfl⟩
  rw [← hZ, ← hz1, ← hz2, ← hz3] at H17 ⊢
  have k1 : (∀ w, mop .sub .f32 1065353216 D w = k) ∧ mdr .sub .f32 1065353216 D = 0 := by rw [hk, hD]; exact run_fopN (op := .sub) C.k
  have k2 : (∀ w, mop .sub .f32 1073741824 k w = fop .sub .f32 1073741824 k) ∧ mdr .sub .f32 1073741824 k = 0 := by rw [hk]; exact run_fopN (op := .sub) C.t
  have k3 : (∀ w, mop .mul .f32 r (fop .sub .f32 1073741824 k) w = fop .mul .f32 r (fop .sub .f32 1073741824 k)) ∧ mdr .mul .f32 r (fop .sub .f32 1073741824 k) = 0 := by rw [hk]; exact run_fopN A.h1
  have k4 : (∀ w, mop .quo .f32 (fop .mul .f32 r (fop .sub .f32 1073741824 k)) m w = q) ∧ mdr .quo .f32 (fop .mul .f32 r (fop .sub .f32 1073741824 k)) m = 0 := by rw [hq, hk, hm]; exact run_fopN A.h2
  have k5 : (∀ w, mop .mul .f32 h h w = fop .mul .f32 h h) ∧ mdr .mul .f32 h h = 0 := by rw [hh]; exact run_fopN A.hh
  have k6 := run_fopN A.rr
  have k7 : (∀ w, mop .add .f32 (fop .mul .f32 h h) (fop .mul .f32 r r) w = x) ∧ mdr .add .f32 (fop .mul .f32 h h) (fop .mul .f32 r r) = 0 := by rw [hh, hx]; exact run_fopN (op := .add) A.x
  have k8 : (∀ w, mop .sub .f32 rt r w = d) ∧ mdr .sub .f32 rt r = 0 := by rw [hrt, hd]; exact run_fopN (op := .sub) A.d
  obtain ⟨k1, l1⟩ := k1
  obtain ⟨k2, l2⟩ := k2
  obtain ⟨k3, l3⟩ := k3
  obtain ⟨k4, l4⟩ := k4
  obtain ⟨k5, l5⟩ := k5
  obtain ⟨k6, l6⟩ := k6
  obtain ⟨k7, l7⟩ := k7
  obtain ⟨k8, l8⟩ := k8
  have hmn : isN .f32 m = true := by rw [hm]; exact C.m
  have hm0 : R .f32 m ≠ 0 := by rw [hm]; exact C.m0
  have oe := ord_eq0 hmn zero32_N.1
  rw [zero32_R, decide_eq_false hm0] at oe
  have dz : ∀ w : World, w.drewN 0 = w := World.drewN_zero
  clear A B C n0 n1 n2 hab hU hV hW hS ha hc hD hk hm hh hx hrt hd hq hua hub huc hpa hpb hpc hZ hz1 hz2 hz3 hmn hm0
  unfold arcV at *
  unfold cV at H1 H2 H3 H4 H5 H6 H8 H9 H11 H12 H13 H14 H15 H16 H17 ⊢
  simp only [] at H1 H2 H12 H14 H16 ⊢
  unfold fourB at *
  go_enter Try.func16, Try.ntmps16
  go_wp2_with fail
  refine Calls.mono (HAP.out _ _ ?hs) ?_
  case hs =>
    intro i hi
    rw [World.cell?_alloc_at _ _ _ _ (by simp)]
    have : i = 0 ∨ i = 1 ∨ i = 2 := by omega
    rcases this with rfl | rfl | rfl <;> rfl
  rintro e w0 ⟨rfl, n, rfl⟩
  go_wp2_with fail
  refine Calls.mono (HAM.out _ _ ?hs) ?_
  case hs => exact slF_new _ [r] _ _ 1 (by simp) (by simp) _ rfl rfl
  rintro e w0 ⟨rfl, n2, rfl⟩
  go_wp2_with fail
  refine (H1.out _).mono ?_
  rintro e w1 ⟨rfl, rfl⟩
  go_wp2_with fail
  refine (H3.out _).mono ?_
  rintro e w1 ⟨rfl, rfl⟩
  go_wp2_with fail
  refine (H2.out _).mono ?_
  rintro e w1 ⟨rfl, rfl⟩
  go_wp2_with fail
  refine (H4.out _).mono ?_
  rintro e w1 ⟨rfl, rfl⟩
  go_wp2_with fail
  refine (H5.out _).mono ?_
  rintro e w1 ⟨rfl, rfl⟩
  go_wp2_with fail
  refine (H6.out _).mono ?_
  rintro e w1 ⟨rfl, rfl⟩
  go_wp2_with fail
  refine (H7.out _).mono ?_
  rintro e w1 ⟨rfl, rfl⟩
  go_wp2_with fail
  refine (H8.out _).mono ?_
  rintro e w1 ⟨rfl, rfl⟩
  go_wp2_with fail
  refine (H9.out _).mono ?_
  rintro e w1 ⟨rfl, rfl⟩
  go_wp2_with fail
  refine (H10.out _).mono ?_
  rintro e w1 ⟨rfl, rfl⟩
  go_wp2_with fail
  refine (H11.out _).mono ?_
  rintro e w1 ⟨rfl, rfl⟩
  go_wp2_with fail
  refine (H12.out _).mono ?_
  rintro e w1 ⟨rfl, rfl⟩
  go_wp2_with fail
  refine (H13.out _).mono ?_
  rintro e w1 ⟨rfl, rfl⟩
  go_wp2_with fail
  refine (H14.out _).mono ?_
  rintro e w1 ⟨rfl, rfl⟩
  go_wp2_with fail
  refine (H15.out _).mono ?_
  rintro e w1 ⟨rfl, rfl⟩
  go_wp2_with fail
  refine (H16.out _).mono ?_
  rintro e w1 ⟨rfl, rfl⟩
  go_wp2_with fail
  refine (H17.out _).mono ?_
  rintro e w5 ⟨rfl, hb⟩
  have ho : OwnC w5 w.heap.size _ _ := OwnC.below ((((OwnC.new rfl).alloc _).alloc _).drewN _) hb (by simp; omega)
  have b0 := ho.cell 0
  have b1 := ho.cell 1
  have b2 := ho.cell 2
  have b3 := ho.cell 3
  have f0 := ho.free 0
  have f1 := ho.free 1
  have f2 := ho.free 2
  have f3 := ho.free 3
  have HB := Lib.hid (show Below w.heap.size w w5 from (below_dr (((Below.refl w.heap.size w).alloc (Nat.le_refl _) _).alloc (by simp) _ |>.alloc (by simp; omega) _) _).trans (hb.mono (by simp; omega)))
  have HO := Lib.hid ho
  clear hb ho
  go_wp2_with fail
  refine bodyPost_ret (v := .tuple #[.agg #[.complex .f32 Z.1 Z.2, .float .f32 z1, .float .f32 z2, .float .f32 z3], .bool true]) (by simp [results, Try.results16, go_sem, *]) rfl ?_
  exact ⟨rfl, (((HB.out.setCell (Nat.le_refl _) _).setCell (Nat.le_refl _) _).setCell (Nat.le_refl _) _).setCell (Nat.le_refl _) _⟩
end Go.Proofs.Ytkbikfifnaihlaa

namespace Go.Proofs.Ytkbikfifnaihlaa
open Go.RowKit Go.Fl

theorem scaleS {a : Cx} {s : Nat} (h : nN (scaleF a s)) (w : World) :
    Calls Try.prog 6 #[cV a, .float .f32 s] w fun x w' => x = .returned (cV (scaleF a s)) ∧ w' = w := by
  have HL : Hid (∀ w, Calls Try.prog 17 #[cV a, .float .f32 s] w fun x w' => x = .returned (cV (scaleF a s)) ∧ w' = w) := Lib.hid fun w => by
    obtain ⟨m1, d1⟩ := run_fopN h.1
    obtain ⟨m2, d2⟩ := run_fopN h.2
    have dz : ∀ w : World, w.drewN 0 = w := World.drewN_zero
    obtain ⟨a1, a2⟩ := a
    clear h
    unfold cV
    go_enter Try.func17, Try.ntmps17
    go_wp2_with fail
    go_ret
    exact ⟨rfl, rfl⟩
  clear h
  go_enter Try.func6, Try.ntmps6
  go_wp2_with fail
  refine (HL.out _).mono ?_
  rintro e w1 ⟨rfl, rfl⟩
  go_wp2_with fail
  go_ret
  exact ⟨rfl, rfl⟩
set_option maxHeartbeats 1000000 in
set_option maxRecDepth 100000 in
theorem middleOfW {p : Nat → Cx} {n : Nat} (M : MeN p n) (bS c : Nat) (hn : n ≤ 1000) (w : World) (hc : ∀ i, i < n → w.cell? ⟨bS, i, none⟩ = some (cV (p i))) :
    Calls Try.prog 37 #[.slice (some ⟨bS, 0, none⟩) n c] w fun e w' => e = .returned (cV (meF p n)) ∧ w' = w := by
  have HC := Lib.hid hc
  have HS := Lib.hid (fun i (hi : i < n) W => plusN (a := smF p i) (b := p i) (M.s (i + 1) (by omega)) W)
  have hm := M.m
  unfold meF at hm ⊢
  obtain ⟨m1, d1⟩ := run_fopN hm.1
  obtain ⟨m2, d2⟩ := run_fopN hm.2
  have dz : ∀ w : World, w.drewN 0 = w := World.drewN_zero
  clear hc M hm
  go_enter Try.func37, Try.ntmps37
  go_wp2_with fail
  go_loop [3, 9] (fun sv iv => ∃ i : Nat, i ≤ n ∧ iv = .int .i64 (i : Nat) ∧ sv = .complex .f32 (smF p i).1 (smF p i).2) (fun _ iv => n - (intOf iv).toNat)
  case atStart => exact ⟨0, Nat.zero_le _, rfl, rfl⟩
  case round =>
    obtain ⟨i, hi, rfl, rfl⟩ := hrel
    by_cases hlt : i < n
    · have i0 : (0 : Int) ≤ (i : Int) := by omega
      have i1 : (i : Int) < (n : Int) := by omega
      have c1 := HC.out i hlt
      have HP := Lib.hid (fun W => HS.out i hlt W)
      have HN := Lib.hid (show plusF (smF p i) (p i) = smF p (i + 1) from rfl)
      rw [HN.out] at HP
      unfold cV at c1 HP
      go_wp2_with fail
      refine (HP.out _).mono ?_
      rintro e w1 ⟨rfl, rfl⟩
      go_wp2_with fail
      go_round
      case rel => exact ⟨i + 1, by omega, by go_num, rfl⟩
      case measure => simp [intOf]; omega
    · obtain rfl : i = n := by omega
      have i1 : ¬ (i : Int) < (i : Int) := by omega
      go_wp2_with fail
      go_ret
      exact ⟨rfl, rfl⟩
end Go.Proofs.Ytkbikfifnaihlaa

/- Dashes: the law walked. -/
import Derived.Test.YtodkhkphagcfiaaDsY
namespace Go.Fl
open Ieee Go.RowKit
theorem quiet_of3 {P : Program} {f : FuncId} {args : Array Value} {w : World} {q n : Nat} {v : Value} (h : ∀ w, Calls P f args w fun e w' => e = .returned v ∧ w' = w) :
    Calls P f args (w.drewN (q + n)) fun e w'' => e = .returned v ∧ ∃ m, w'' = w.drewN (q + m) := (h _).mono fun _ _ ⟨he, hw⟩ => ⟨he, n, hw⟩
theorem quiet_of0 {P : Program} {f : FuncId} {args : Array Value} {w : World} {n : Nat} {v : Value} (h : ∀ w, Calls P f args w fun e w' => e = .returned v ∧ w' = w) :
    Calls P f args (w.drewN n) fun e w'' => e = .returned v ∧ ∃ m, w'' = w.drewN m := (h _).mono fun _ _ ⟨he, hw⟩ => ⟨he, n, hw⟩
def leftF (tot : Nat) (v : Value) : Nat := match v with | .float _ b => (V .f64 tot - V .f64 b).toNat | _ => 0
structure WantOk (S on T : Rat) (p t tot j : Nat) : Prop where
  n : isN .f64 (wantF p t tot j) = true
  lo : -(qN j / 1000000) ≤ R .f64 (wantF p t tot j) - FQ S on T j
  hi : R .f64 (wantF p t tot j) - FQ S on T j ≤ qN j / 1000000
  nn : 0 ≤ R .f64 (wantF p t tot j)
  up : R .f64 (wantF p t tot j) ≤ 3 * qN j
theorem WantOk.start (S on T : Rat) (p t tot : Nat) : WantOk S on T p t tot 0 := by
  have z := zero64_N.2
  refine ⟨zero64_N.1, ?_, ?_, ?_, ?_⟩
  · rw [qN0]; show _ ≤ R .f64 0 - 0; rw [z]; grind
  · rw [qN0]; show R .f64 0 - 0 ≤ _; rw [z]; grind
  · show _ ≤ R .f64 0; rw [z]; exact Rat.le_refl
  · rw [qN0]; show R .f64 0 ≤ _; rw [z]; grind
/-- the law's test of the law's own sums -/
structure WantGo (p t tot j : Nat) : Prop where
  lt : (FloatKind.f64.format.order (atF p t j) tot == some .lt) = true
  j16 : j < 16
  s : isN .f64 (fop .sub .f64 tot (atF p t j)) = true
  w : isN .f64 (wantF p t tot (j + 1)) = true
  pt : isN .f64 (fop .add .f64 p t) = true
  a : isN .f64 (atF p t (j + 1)) = true
  left : (V .f64 tot - V .f64 (atF p t (j + 1))).toNat < (V .f64 tot - V .f64 (atF p t j)).toNat
theorem want_go {xs : List Cx} {on off : Rat} (C : Ctx xs on off) {p t tot j : Nat} (hp : isN .f64 p = true) (ht : isN .f64 t = true) (htot : isN .f64 tot = true) (ep : R .f64 p = on) (et : R .f64 t = off) (h1 : Sq xs (xs.length - 1) - 1 / 10000000 ≤ R .f64 tot) (h2 : R .f64 tot ≤ Sq xs (xs.length - 1) + 1 / 10000000)
    (hj : j ≤ 16) (hlt : R .f64 (atF p t j) < R .f64 tot) (hw : WantOk (Sq xs (xs.length - 1)) on (on + off) p t tot j) : WantGo p t tot j ∧ WantOk (Sq xs (xs.length - 1)) on (on + off) p t tot (j + 1) := by
  have hj16 := at_end C hp ht ep et h2 (by omega) hlt
  obtain ⟨w1, w2, w3, w4, w5, w6⟩ := want_step C hp ht htot ep et h1 h2 hj16 hlt hw.n hw.lo hw.hi hw.nn hw.up
  obtain ⟨a0, af⟩ := atF_facts C hp ht ep et
  obtain ⟨a1, a2, a3⟩ := af j (by omega)
  obtain ⟨b1, b2, b3⟩ := af (j + 1) (by omega)
  have hlt2 : R .f64 (atF p t j) < R .f64 (atF p t (j + 1)) := by
    have := C.o1
    have := C.f1
    have k0 := qN_nn j
    have k16 := qN_le (show j ≤ 16 by omega)
    have e16 : qN 16 = 16 := rfl
    rw [e16] at k16
    rw [qN_succ] at b2
    grind
  rw [R_lt] at hlt2
  have hlt' := hlt
  rw [R_lt] at hlt'
  exact ⟨⟨by rw [ord_R64 a1 htot]; exact decide_eq_true hlt, hj16, w1, w2, a0, b1, by omega⟩, ⟨w2, w3, w4, w5, w6⟩⟩
structure EndTest (a b : Nat) : Prop where
  g : isN .f64 (if R .f64 a < R .f64 b then fop .sub .f64 b a else fop .sub .f64 a b) = true
  lt : (FloatKind.f64.format.order (gapF a b) 4587366580439587226 == some .lt) = true
theorem end_test {a b : Nat} (ha : isN .f64 a = true) (hb : isN .f64 b = true) (a1 : 0 ≤ R .f64 a) (a2 : R .f64 a ≤ 100) (b1 : 0 ≤ R .f64 b) (b2 : R .f64 b ≤ 100) (h1 : -(48 / 1000) ≤ R .f64 a - R .f64 b) (h2 : R .f64 a - R .f64 b ≤ 48 / 1000) : EndTest a b := by
  obtain ⟨g1, g2, g3⟩ := gap_facts ha hb (by grind) (by grind) (by grind) (by grind)
  have := g2 (48 / 1000) h1 h2
  have f := five64
  exact ⟨g3, by rw [ord_R64 g1 f.1]; exact decide_eq_true (by have := f.2; grind)⟩
/-- the law's test of one dash -/
structure LenTest (on lg : Nat) (more : Prop) : Prop where
  w : nanB .f32 on = false
  a : isN .f64 (fop .add .f64 (fcv .f32 .f64 on) 4576918229304087675) = true
  b : isN .f64 (fop .sub .f64 (fcv .f32 .f64 on) 4576918229304087675) = true
  hi : (FloatKind.f64.format.order lg (fop .add .f64 (fcv .f32 .f64 on) 4576918229304087675) == some .gt) = false
  lo : more → (FloatKind.f64.format.order lg (fop .sub .f64 (fcv .f32 .f64 on) 4576918229304087675) == some .lt) = false
theorem len_test {on lg : Nat} {more : Prop} (ho : isN .f32 on = true ∧ 1 / 2 ≤ R .f32 on ∧ R .f32 on ≤ 2) (hl : isN .f64 lg = true) (h1 : R .f64 lg ≤ R .f32 on + 18 / 10000) (h2 : more → R .f32 on - 18 / 10000 ≤ R .f64 lg) : LenTest on lg more := by
  obtain ⟨o0, o1, o2⟩ := ho
  obtain ⟨n, e⟩ := wide o0 (by grind) (by grind)
  obtain ⟨c0, c1, c2⟩ := centi64
  have q1 := rnd_add n c0 (by rw [e]; grind) (by rw [e]; grind)
  have q2 := rnd_sub n c0 (by rw [e]; grind) (by rw [e]; grind)
  rw [e] at q1 q2
  have f1 := q1.n64 3 (by decide) (B := 8) rfl (by grind) (by grind)
  have f2 := q2.n64 3 (by decide) (B := 8) rfl (by grind) (by grind)
  exact ⟨isN.nan o0, q1.num, q2.num, by rw [ord_G64 hl q1.num]; exact decide_eq_false (by grind), fun hm => by rw [ord_R64 hl q2.num]; exact decide_eq_false (by have := h2 hm; grind)⟩
end Go.Fl
namespace Go.Proofs.Ytodkhkphagcfiaa
open Go.RowKit Go.Fl

set_option maxHeartbeats 8000000 in
set_option maxRecDepth 100000 in
theorem lawD (a1 a2 : Option Addr) (n1 n2 ca1 ca2 : Nat) (w : World) (h1 : CodeAt w w.heap.size a1 n1) (h2 : CodeAt w w.heap.size a2 n2) :
    Calls Try.prog 3 #[.slice a1 n1 ca1, .slice a2 n2 ca2] w fun e w' => e = .returned (.bool true) ∧ Below w.heap.size w w' := by
  have H1 := Lib.hid h1
  have H2 := Lib.hid h2
  clear h1 h2
  go_enter Try.func3, Try.ntmps3
  by_cases hsz : n1 ≤ 1048576 ∧ n2 ≤ 1048576
  · obtain ⟨hn1, hn2⟩ := hsz
    go_wp2_with fail
    refine (b10LongNo a1 a2 n1 n2 ca1 ca2 hn1 hn2 w).mono ?_
    rintro e w ⟨rfl, rfl⟩
    go_wp2_with fail
    refine (b10At w.heap.size a2 n2 ca2 0 6 hn2 (by decide) (by decide) (by decide) w H2.out).mono ?_
    rintro e w ⟨⟨r0, rfl, hr0⟩, rfl⟩
    obtain ⟨N, hN⟩ : ∃ N, N = 2 + r0 := ⟨_, rfl⟩
    have qN0 : (2 : Int) + (r0 : Int) = (N : Int) := by omega
    have hN2 : 2 ≤ N := by omega
    have hN7 : N ≤ 7 := by omega
    have hr0' : (r0 : Int) < 6 := by omega
    clear hN
    go_wp2_with fail
    refine (b10Path a1 n1 ca1 N hn1 hN7 w H1.out).mono ?_
    rintro e v1 ⟨⟨b, cap, xs, z, rfl, hps, hb, hoc⟩, hbel⟩
    have HPS := Lib.hid hps
    have HB1 := Lib.hid hbel
    have HC1 := Lib.hid (fun i (hi : i < N) => hoc.2 i (by rw [hps.len]; exact hi))
    have hbl := hoc.1.lt
    have hN7' : (N : Int) ≤ 7 := by omega
    have hN2' : (2 : Int) ≤ (N : Int) := by omega
    clear hps hbel hoc qN0 hr0'
    go_wp2_with fail
    go_loopw [6, 7] (fun t i wr => ∃ k q : Nat, k + 1 ≤ N ∧ i = .int .i64 ((k + 1 : Nat) : Int) ∧ t = .float .f64 (dsumF xs k) ∧ wr = v1.drewN q) (fun _ i _ => N - (intOf i).toNat)
    case atStart => exact ⟨0, 0, by omega, rfl, rfl, rfl⟩
    case round =>
      obtain ⟨k, q, hk, rfl, rfl, rfl⟩ := hrel
      obtain ⟨J, hJ⟩ : ∃ J, J = k + 1 := ⟨_, rfl⟩
      rw [← hJ] at hk ⊢
      have HJ := Lib.hid hJ
      have kJ : (J : Int) - 1 = (k : Int) := by omega
      by_cases hlt : J < N
      · have J0 : (0 : Int) ≤ (J : Int) := by omega
        have J1 : (J : Int) < (N : Int) := by omega
        have k0 : (0 : Int) ≤ (k : Int) := by omega
        have k1 : (k : Int) < (N : Int) := by omega
        have kW : IntKind.i64.wrap ((J : Int) - 1) = (k : Int) := by rw [kJ]; exact IntWalk.i64_in _ (by omega)
        have kW2 : IntKind.i64.wrap (k : Int) = (k : Int) := IntWalk.i64_in _ (by omega)
        have g1 := HC1.out k (by omega)
        have g2 := HC1.out J hlt
        have hs := HPS.out.seg k (by omega)
        have C := HPS.out.ctx hN2 hN7 (on := 1) (off := 1) (by grind) (by grind) (by grind) (by grind)
        have ht := (total_facts C J (by rw [HPS.out.len]; exact hlt)).1
        have et : dsumF xs J = fop .add .f64 (dsumF xs k) (fcv .f32 .f64 (lF xs k)) := by rw [hJ]; rfl
        have HET := Lib.hid et
        rw [et] at ht
        rw [← hJ] at hs
        obtain ⟨T, hT⟩ : ∃ T, T = dsumF xs k := ⟨_, rfl⟩
        rw [← hT] at ht HET ⊢
        obtain ⟨P, hP⟩ : ∃ P, P = cAt xs k := ⟨_, rfl⟩
        obtain ⟨Q, hQ⟩ : ∃ Q, Q = cAt xs J := ⟨_, rfl⟩
        rw [← hP, ← hQ] at hs
        rw [← hP] at g1
        rw [← hQ] at g2
        obtain ⟨L, hL⟩ : ∃ L, L = lF xs k := ⟨_, rfl⟩
        have hL2 : longF (minusF Q P) = L := by rw [hL, hP, hQ, hJ]; rfl
        rw [← hL] at ht HET
        obtain ⟨V, hV⟩ : ∃ V, V = minusF Q P := ⟨_, rfl⟩
        have hsub := fun w => cx_sub (P := Try.prog) 30 hs.d w
        rw [← hV] at hsub
        have hln := hs.len.ln
        rw [← hV] at hln hL2
        have hv := isN.nan hln.num
        rw [hL2] at hv
        have HLO : Hid (∀ W, Calls Try.prog 7 #[.complex .f32 V.1 V.2] W fun e w' => e = .returned (.float .f32 L) ∧ w' = W) := Lib.hid fun W => by rw [← hL2]; exact longS hln W
        obtain ⟨m1, d1⟩ := run_wid64 hv
        obtain ⟨m2, d2⟩ := run_fopN (op := .add) ht
        have dz : ∀ w : World, w.drewN 0 = w := World.drewN_zero
        unfold cV at g1 g2
        clear hJ hT hP hQ hL hL2 hV hs C ht hln et
        go_wp2_with fail
        go_quiet ((go_at_call 7; first | refine quiet_of3 HLO.out | refine quiet_of0 HLO.out))
        go_wp2_with fail
        exact ⟨⟨J, _, by omega, by go_num, by rw [HET.out], by first | rfl | simp only [World.drewN_drewN]⟩, by simp [intOf]; omega⟩
      · have J1 : ¬ (J : Int) < (N : Int) := by omega
        obtain ⟨v2, hv2⟩ : ∃ v : World, v = v1.drewN q := ⟨_, rfl⟩
        have HB2 := Lib.hid (show Below w.heap.size w v2 by rw [hv2]; exact below_dr HB1.out q)
        have HC2 := Lib.hid (fun i (hi : i < N) => (by rw [hv2]; exact HC1.out i hi : v2.cell? ⟨b, i, none⟩ = some (cV (cAt xs i))))
        have hbl2 : b < v2.heap.size := by rw [hv2]; exact hbl
        have hkN : k = N - 1 := by omega
        have HKN := Lib.hid hkN
        have C0 := HPS.out.ctx hN2 hN7 (on := 1) (off := 1) (by grind) (by grind) (by grind) (by grind)
        have HT := Lib.hid (total_facts C0 k (by rw [HPS.out.len]; omega))
        have HKX := Lib.hid (show k = xs.length - 1 by rw [HPS.out.len]; exact hkN)
        obtain ⟨tot, htot⟩ : ∃ t, t = dsumF xs k := ⟨_, rfl⟩
        rw [← htot] at HT ⊢
        rw [← hv2]
        have hk7 : k ≤ 6 := by omega
        clear hv2 hkN C0 htot hJ HJ kJ
        go_wp2_with fail
        refine (b10At w.heap.size a2 n2 ca2 1 7 hn2 (by decide) (by decide) (by decide) v2 (H2.out.far (Far.below HB2.out (Nat.le_refl _)))).mono ?_
        rintro e v2 ⟨⟨r1, rfl, hr1⟩, rfl⟩
        obtain ⟨m1, hm1⟩ : ∃ m, m = 2 + r1 := ⟨_, rfl⟩
        have e1 : (2 : Int) + (r1 : Int) = (m1 : Int) := by omega
        have hon := qW_half (m := m1) (by omega) (by omega)
        obtain ⟨mo1, do1⟩ := qW_run (m := m1) (by omega)
        have hr1' : (r1 : Int) < 7 := by omega
        have dz : ∀ w : World, w.drewN 0 = w := World.drewN_zero
        have HON := Lib.hid hon
        clear hm1 hon
        go_wp2_with fail
        refine (b10At w.heap.size a2 n2 ca2 2 7 hn2 (by decide) (by decide) (by decide) v2 (H2.out.far (Far.below HB2.out (Nat.le_refl _)))).mono ?_
        rintro e v2 ⟨⟨r2, rfl, hr2⟩, rfl⟩
        obtain ⟨m2, hm2⟩ : ∃ m, m = 2 + r2 := ⟨_, rfl⟩
        have e2 : (2 : Int) + (r2 : Int) = (m2 : Int) := by omega
        have hof := qW_half (m := m2) (by omega) (by omega)
        obtain ⟨mo2, do2⟩ := qW_run (m := m2) (by omega)
        have hr2' : (r2 : Int) < 7 := by omega
        have HOF := Lib.hid hof
        clear hm2 hof
        go_wp2_with fail
        obtain ⟨on, hon⟩ : ∃ o, o = qW m1 := ⟨_, rfl⟩
        obtain ⟨off, hoff⟩ : ∃ o, o = qW m2 := ⟨_, rfl⟩
        rw [← hon] at HON ⊢
        rw [← hoff] at HOF ⊢
        clear e1 e2 mo1 mo2 do1 do2 hon hoff hr1' hr2' hr1 hr2
        refine (dashMain HPS.out hN2 hN7 HON.out HOF.out b cap v2.heap.size 2 (v2.alloc (.cells #[.float .f32 on, .float .f32 off] 28)) (by simp; omega) (by simp) (fun i hi => (Below.cell (p := ⟨b, i, none⟩) (Below.alloc (Below.refl v2.heap.size v2) (Nat.le_refl _) _) hbl2).trans (HC2.out i hi)) (by rw [World.cell?_alloc_at _ _ _ _ rfl]; rfl) (by rw [World.cell?_alloc_at _ _ _ _ rfl]; rfl)).mono ?_
        rintro e v3 ⟨⟨ao1, cp1, M, ls, rfl, hM, hgd, hls⟩, hb3⟩
        have hb3' : Below v2.heap.size v2 v3 := (Below.alloc (Below.refl _ _) (Nat.le_refl _) _).trans (hb3.mono (by simp))
        have HB3 := Lib.hid hb3'
        have HG := Lib.hid hgd
        have HM := Lib.hid hM
        have HL3 := Lib.hid hls
        have hM1 : 1 ≤ M := by rw [hM]; exact hgd.l1
        have hM15 : M ≤ 15 := by rw [hM]; exact hgd.l2
        have hz3 := hb3'.size
        have hbl3 : b < v3.heap.size := by omega
        have HC3 := Lib.hid (fun i (hi : i < N) => (hb3'.cell (p := ⟨b, i, none⟩) hbl2).trans (HC2.out i hi))
        clear hb3 hb3' hgd hM hls
        go_wp2_with fail
        refine (dashWhole HPS.out hN2 hN7 b cap v3.heap.size 2 (v3.alloc (.cells #[.float .f32 1148846080, .float .f32 1065353216] 28)) (by simp; omega) (by simp) (fun i hi => (Below.cell (p := ⟨b, i, none⟩) (Below.alloc (Below.refl v3.heap.size v3) (Nat.le_refl _) _) hbl3).trans (HC3.out i hi)) (by rw [World.cell?_alloc_at _ _ _ _ rfl]; rfl) (by rw [World.cell?_alloc_at _ _ _ _ rfl]; rfl)).mono ?_
        rintro e v4 ⟨⟨ao2, cp2, rfl, hls⟩, hb4⟩
        have hb4' : Below v3.heap.size v3 v4 := (Below.alloc (Below.refl _ _) (Nat.le_refl _) _).trans (hb4.mono (by simp))
        have HB4 := Lib.hid hb4'
        have HL4 := Lib.hid hls
        have hz4 := hb4'.size
        have hbl4 : b < v4.heap.size := by omega
        have HC4 := Lib.hid (fun i (hi : i < N) => (hb4'.cell (p := ⟨b, i, none⟩) hbl3).trans (HC3.out i hi))
        clear hb4 hb4' hls
        go_wp2_with fail
        refine (dashNone HPS.out hN2 hN7 b cap v4.heap.size 2 (v4.alloc (.cells #[.float .f32 1065353216, .float .f32 1148846080] 28)) (by simp; omega) (by simp) (fun i hi => (Below.cell (p := ⟨b, i, none⟩) (Below.alloc (Below.refl v4.heap.size v4) (Nat.le_refl _) _) hbl4).trans (HC4.out i hi)) (by rw [World.cell?_alloc_at _ _ _ _ rfl]; rfl) (by rw [World.cell?_alloc_at _ _ _ _ rfl]; rfl)).mono ?_
        rintro e v5 ⟨⟨ao3, cp3, rfl⟩, hb5⟩
        have hb5' : Below v4.heap.size v4 v5 := (Below.alloc (Below.refl _ _) (Nat.le_refl _) _).trans (hb5.mono (by simp))
        have hz5 := hb5'.size
        have HB5 := Lib.hid (((HB2.out.trans (HB3.out.mono HB2.out.size)).trans (HB4.out.mono (by have := HB2.out.size; omega))).trans (hb5'.mono (by have := HB2.out.size; omega)))
        have HC5 := Lib.hid (fun i (hi : i < N) => (hb5'.cell (p := ⟨b, i, none⟩) hbl4).trans (HC4.out i hi))
        have HS5 := Lib.hid ((HL3.out.far (Far.below (HB4.out.trans (hb5'.mono HB4.out.size)) (Nat.le_refl _))).slL)
        obtain ⟨bw, hbw, _, _, hwc⟩ := (HL4.out.far (Far.below hb5' (Nat.le_refl _))).slL (by simp)
        obtain ⟨aw, cw, cell_w, hscw⟩ := hwc 0 (by simp)
        have hlp : lpAt [xs] 0 = xs := rfl
        rw [hlp, HPS.out.len] at cell_w
        rw [hlp] at hscw
        subst hbw
        have HSA := Lib.hid (sameAllN _ _ b (b + 1) aw (some ⟨b, 0, none⟩) cw cap N xs HPS.out.len (by omega) (fun z hz => by
          obtain ⟨k, hk, rfl⟩ := List.getElem_of_mem hz
          have := HPS.out.all k (by rw [← HPS.out.len]; exact hk)
          unfold cAt at this
          rw [List.getD_eq_getElem?_getD, List.getElem?_eq_getElem hk] at this
          exact this) v5 hscw (fun _ => ⟨b, rfl, Nat.le_refl _, Nat.lt_succ_self _, fun i hi => HC5.out i (by rw [← HPS.out.len]; exact hi)⟩))
        have M1 : (1 : Int) ≤ (M : Int) := by omega
        have M2 : (M : Int) ≤ 15 := by omega
        clear hb5 hb5' hwc hlp hscw
        go_wp2_with fail
        refine HSA.out.mono ?_
        rintro e v6 ⟨rfl, q6, rfl⟩
        go_wp2_with fail
        obtain ⟨v6, hv6⟩ : ∃ v : World, v = v5.drewN q6 := ⟨_, rfl⟩
        have HB6 := Lib.hid (show Below w.heap.size w v6 by rw [hv6]; exact below_dr HB5.out q6)
        have HS6 := Lib.hid (show SlL v6 (v2.alloc (.cells #[.float .f32 on, .float .f32 off] 28)).heap.size v3.heap.size ao1 ls by rw [hv6]; exact HS5.out)
        have HC6 := Lib.hid (fun i (hi : i < N) => (by rw [hv6]; exact HC5.out i hi : v6.cell? ⟨b, i, none⟩ = some (cV (cAt xs i))))
        rw [← hv6]
        obtain ⟨bd, hbd, _, _, hdc⟩ := HS6.out (by rw [← HM.out]; omega)
        have HDC := Lib.hid hdc
        have HCT := Lib.hid (HPS.out.ctx hN2 hN7 HON.out.2.1 HON.out.2.2 HOF.out.2.1 HOF.out.2.2)
        subst hbd
        clear hv6 hdc HSA cell_w
        go_loopw [16, 120] (fun sv kv wr => ∃ k q : Nat, k ≤ M ∧ kv = .int .i64 k ∧ sv = .float .f64 (sumD ls k) ∧ wr = v6.drewN q) (fun _ kv _ => M - (intOf kv).toNat)
        case atStart => exact ⟨0, 0, by omega, rfl, rfl, rfl⟩
        case round =>
          obtain ⟨k, q, hk, rfl, rfl, rfl⟩ := hrel
          by_cases hlt : k < M
          · have k0 : (0 : Int) ≤ (k : Int) := by omega
            have k1 : (k : Int) < (M : Int) := by omega
            have hkl : k < ls.length := by rw [← HM.out]; exact hlt
            obtain ⟨ai, ci, ch, hsc⟩ := HDC.out k hkl
            obtain ⟨dA, hch, hd2, hd7, _⟩ := HG.out.dash k hkl
            have hdl := dash_len HCT.out HG.out hkl
            obtain ⟨D, hD⟩ : ∃ D, D = lpAt ls k := ⟨_, rfl⟩
            rw [← hD] at ch hsc hch hd2 hd7
            obtain ⟨m, hm⟩ : ∃ m, m = D.length := ⟨_, rfl⟩
            rw [← hm] at ch hd2 hd7
            obtain ⟨bk, hbk, _, _, hcc⟩ := hsc (by omega)
            have HCC := Lib.hid (fun i (hi : i < m) => hcc i (by rw [← hm]; exact hi))
            have HCH := Lib.hid hch
            have HMD := Lib.hid hm
            have HLT := Lib.hid (len_test (more := k + 1 < M) HON.out hdl.1 hdl.2.1 (by rw [HM.out]; exact hdl.2.2.1))
            have HSU := Lib.hid ((sumD_facts HCT.out HG.out (k + 1) hkl).1)
            have hle : dlenF ls k = dsumF D (m - 1) := by unfold dlenF; rw [← hD, ← hm]
            have HLE := Lib.hid hle
            have m0 : (2 : Int) ≤ (m : Int) := by omega
            have m7 : (m : Int) ≤ 7 := by omega
            subst hbk
            clear hsc hcc hch hD hm hdl hle hkl
            go_wp2_with fail
            go_loopw [18, 19] (fun t i wr => ∃ j q : Nat, j + 1 ≤ m ∧ i = .int .i64 ((j + 1 : Nat) : Int) ∧ t = .float .f64 (dsumF D j) ∧ wr = v6.drewN q) (fun _ i _ => m - (intOf i).toNat)
            case atStart => exact ⟨0, q, by omega, rfl, rfl, rfl⟩
            case round =>
              obtain ⟨j, q, hj, rfl, rfl, rfl⟩ := hrel
              obtain ⟨J, hJ⟩ : ∃ J, J = j + 1 := ⟨_, rfl⟩
              rw [← hJ] at hj ⊢
              have kJ : (J : Int) - 1 = (j : Int) := by omega
              by_cases hlt2 : J < m
              · have J0 : (0 : Int) ≤ (J : Int) := by omega
                have J1 : (J : Int) < (m : Int) := by omega
                have j0 : (0 : Int) ≤ (j : Int) := by omega
                have j1 : (j : Int) < (m : Int) := by omega
                have kW : IntKind.i64.wrap ((J : Int) - 1) = (j : Int) := by rw [kJ]; exact IntWalk.i64_in _ (by omega)
                have kW2 : IntKind.i64.wrap (j : Int) = (j : Int) := IntWalk.i64_in _ (by omega)
                have g1 := HCC.out j (by omega)
                have g2 := HCC.out J hlt2
                have hp := HCH.out.piece j (by rw [← HMD.out]; omega)
                have ht := (dsum_facts HCH.out (by rw [← HMD.out]; omega) J (by rw [← HMD.out]; exact hlt2)).1
                have et : dsumF D J = fop .add .f64 (dsumF D j) (fcv .f32 .f64 (longF (minusF (cAt D (j + 1)) (cAt D j)))) := by rw [hJ]; rfl
                rw [← hJ] at hp et
                have HET := Lib.hid et
                rw [et] at ht
                obtain ⟨T, hT⟩ : ∃ T, T = dsumF D j := ⟨_, rfl⟩
                rw [← hT] at ht HET ⊢
                have hmn := hp.mn
                have hln := hp.ln
                obtain ⟨P, hP⟩ : ∃ P, P = cAt D j := ⟨_, rfl⟩
                obtain ⟨Q, hQ⟩ : ∃ Q, Q = cAt D J := ⟨_, rfl⟩
                rw [← hP, ← hQ] at hmn hln HET ht
                rw [← hP] at g1
                rw [← hQ] at g2
                have hsub := fun w => cx_sub (P := Try.prog) 30 hmn w
                obtain ⟨V, hV⟩ : ∃ V, V = minusF Q P := ⟨_, rfl⟩
                rw [← hV] at hsub hln HET ht
                obtain ⟨L, hL⟩ : ∃ L, L = longF V := ⟨_, rfl⟩
                rw [← hL] at HET ht
                have hv := isN.nan hln.num
                rw [← hL] at hv
                have HLO : Hid (∀ W, Calls Try.prog 7 #[.complex .f32 V.1 V.2] W fun e w' => e = .returned (.float .f32 L) ∧ w' = W) := Lib.hid fun W => by rw [hL]; exact longS hln W
                obtain ⟨m1, d1⟩ := run_wid64 hv
                obtain ⟨m2, d2⟩ := run_fopN (op := .add) ht
                have dz : ∀ w : World, w.drewN 0 = w := World.drewN_zero
                unfold cV at g1 g2
                clear hJ hT hP hQ hL hV hp ht hln et hmn
                go_wp2_with fail
                go_quiet ((go_at_call 7; first | refine quiet_of3 HLO.out | refine quiet_of0 HLO.out))
                go_wp2_with fail
                exact ⟨⟨J, _, by omega, by go_num, by rw [HET.out], by first | rfl | simp only [World.drewN_drewN]⟩, by simp [intOf]; omega⟩
              · have J1 : ¬ (J : Int) < (m : Int) := by omega
                have hjm : j = m - 1 := by omega
                have hlf : dsumF D j = dlenF ls k := by rw [HLE.out, hjm]
                rw [hlf]
                have hs1 := HSU.out
                have hse : sumD ls (k + 1) = fop .add .f64 (sumD ls k) (dlenF ls k) := rfl
                have HSE := Lib.hid hse
                rw [hse] at hs1
                obtain ⟨lg, hlg⟩ : ∃ l, l = dlenF ls k := ⟨_, rfl⟩
                obtain ⟨sm, hsm⟩ : ∃ l, l = sumD ls k := ⟨_, rfl⟩
                rw [← hlg] at hs1 HSE HLT ⊢
                rw [← hsm] at hs1 HSE ⊢
                obtain ⟨mw, dw⟩ := run_wid64 HLT.out.w
                obtain ⟨ma, da⟩ := run_fopN (op := .add) HLT.out.a
                obtain ⟨mb, db⟩ := run_fopN (op := .sub) HLT.out.b
                obtain ⟨ms, ds⟩ := run_fopN (op := .add) hs1
                have hhi := HLT.out.hi
                have hlo := HLT.out.lo
                have dz : ∀ w : World, w.drewN 0 = w := World.drewN_zero
                clear hs1 hse hlg hsm hlf hJ kJ hjm
                by_cases hmore : k + 1 < M
                · have hlo' := hlo hmore
                  have k2 : (k : Int) + 1 < (M : Int) := by omega
                  clear hlo
                  go_wp2_with fail
                  exact ⟨⟨k + 1, q, by omega, by go_num, by rw [HSE.out], rfl⟩, by simp [intOf]; omega⟩
                · have k2 : ¬ (k : Int) + 1 < (M : Int) := by omega
                  clear hlo
                  go_wp2_with fail
                  exact ⟨⟨k + 1, q, by omega, by go_num, by rw [HSE.out], rfl⟩, by simp [intOf]; omega⟩
          · have k1 : ¬ (k : Int) < (M : Int) := by omega
            go_wp2_with fail
            have hkM : k = ls.length := by rw [← HM.out]; omega
            have hsum := sumD_facts HCT.out HG.out k (by omega)
            rw [hkM] at hsum ⊢
            obtain ⟨wp1, wp2⟩ := wide HON.out.1 (by have := HON.out.2.1; grind) (by have := HON.out.2.2; grind)
            obtain ⟨wt1, wt2⟩ := wide HOF.out.1 (by have := HOF.out.2.1; grind) (by have := HOF.out.2.2; grind)
            obtain ⟨p, hp⟩ : ∃ p, p = fcv .f32 .f64 on := ⟨_, rfl⟩
            obtain ⟨t, ht⟩ : ∃ t, t = fcv .f32 .f64 off := ⟨_, rfl⟩
            rw [← hp] at wp1 wp2
            rw [← ht] at wt1 wt2
            have hT := HT.out
            rw [HKX.out] at hT
            have qk : qN (xs.length - 1) ≤ 6 := by
              have := qN_le (show xs.length - 1 ≤ 6 by rw [← HKX.out]; exact hk7)
              exact this
            have HTT := Lib.hid (show isN .f64 tot = true ∧ Sq xs (xs.length - 1) - 1 / 10000000 ≤ R .f64 tot ∧ R .f64 tot ≤ Sq xs (xs.length - 1) + 1 / 10000000 from ⟨hT.1, by grind, by grind⟩)
            have HP := Lib.hid (show isN .f64 p = true ∧ R .f64 p = R .f32 on ∧ isN .f64 t = true ∧ R .f64 t = R .f32 off from ⟨wp1, wp2, wt1, wt2⟩)
            have HSM := Lib.hid hsum
            obtain ⟨mp, dp⟩ := run_wid64 (isN.nan HON.out.1)
            obtain ⟨mt, dt⟩ := run_wid64 (isN.nan HOF.out.1)
            rw [← hp] at mp
            rw [← ht] at mt
            have dz : ∀ w : World, w.drewN 0 = w := World.drewN_zero
            have ndp : mcd .f32 .f64 on = 0 := dp
            have ndt : mcd .f32 .f64 off = 0 := dt
            clear hT wp1 wp2 wt1 wt2 hp ht hsum qk hkM
            go_loopw [20, 21] (fun wv av wr => ∃ j : Nat, j ≤ 16 ∧ av = .float .f64 (atF p t j) ∧ wv = .float .f64 (wantF p t tot j) ∧ Hid (WantOk (Sq xs (xs.length - 1)) (R .f32 on) (R .f32 on + R .f32 off) p t tot j) ∧ wr = v6.drewN q) (fun _ av _ => leftF tot av)
            case atStart => exact ⟨0, by omega, rfl, rfl, Lib.hid (WantOk.start _ _ _ _ _ _), rfl⟩
            case round =>
              obtain ⟨j, hj, rfl, rfl, HW, rfl⟩ := hrel
              by_cases hlt2 : R .f64 (atF p t j) < R .f64 tot
              · obtain ⟨hg, hw⟩ := want_go HCT.out HP.out.1 HP.out.2.2.1 HTT.out.1 HP.out.2.1 HP.out.2.2.2 HTT.out.2.1 HTT.out.2.2 hj hlt2 HW.out
                have HWN := Lib.hid hw
                have hmin := fun (ts : Array TypeId) (ty : TypeId) (w : World) => run_minF (P := Try.prog) HP.out.1 hg.s ts ty w
                have olt := hg.lt
                have j16 := hg.j16
                obtain ⟨m1, d1⟩ := run_fopN (op := .sub) hg.s
                have ew : wantF p t tot (j + 1) = fop .add .f64 (wantF p t tot j) (minF p (fop .sub .f64 tot (atF p t j))) := rfl
                have ea : atF p t (j + 1) = fop .add .f64 (atF p t j) (fop .add .f64 p t) := rfl
                have hw1 := hg.w
                have ha1 := hg.a
                have HLF := Lib.hid hg.left
                rw [ew] at hw1
                rw [ea] at ha1
                obtain ⟨m2, d2⟩ := run_fopN (op := .add) hw1
                obtain ⟨m3, d3⟩ := run_fopN (op := .add) hg.pt
                obtain ⟨m4, d4⟩ := run_fopN (op := .add) ha1
                have HEW := Lib.hid ew
                have HEA := Lib.hid ea
                clear hg hw ew ea hw1 ha1 hlt2
                go_wp2_with fail
                exact ⟨⟨j + 1, by omega, by rw [HEA.out], by rw [HEW.out], HWN, by first | rfl | trivial⟩, by
                  have := HLF.out
                  rw [HEA.out] at this
                  exact this⟩
              · have hat := (atF_facts HCT.out HP.out.1 HP.out.2.2.1 HP.out.2.1 HP.out.2.2.2).2 j (by omega)
                have hof : (FloatKind.f64.format.order (atF p t j) tot == some .lt) = false := by rw [ord_R64 hat.1 HTT.out.1]; exact decide_eq_false hlt2
                have hnear := sums_near HCT.out HG.out HP.out.1 HP.out.2.2.1 HP.out.2.1 HP.out.2.2.2 HTT.out.2.1 hj hlt2 HW.out.lo HW.out.hi
                have q16 := qN_le hj
                have e16 : qN 16 = 16 := rfl
                have qM := qN_le (show ls.length ≤ 15 by rw [← HM.out]; exact hM15)
                have e15 : qN 15 = 15 := rfl
                rw [e16] at q16
                rw [e15] at qM
                have het := end_test HSM.out.1 HW.out.n HSM.out.2.2.2.1 (by have := HSM.out.2.2.2.2; grind) HW.out.nn (by have := HW.out.up; grind) hnear.1 hnear.2
                have HGP := Lib.hid (fun W => b10GapN _ _ HSM.out.1 HW.out.n het.g W)
                have hfin := het.lt
                obtain ⟨ai, ci, ch, hsc⟩ := HDC.out 0 (by rw [← HM.out]; omega)
                obtain ⟨dA, hch, hd2, hd7, _, _, _, _, hd0⟩ := HG.out.dash 0 (by rw [← HM.out]; omega)
                obtain ⟨m, hm⟩ : ∃ m, m = (lpAt ls 0).length := ⟨_, rfl⟩
                obtain ⟨bk, hbk, _, _, hcc⟩ := hsc (by omega)
                have g1 := hcc 0 (by omega)
                have g2 := HC6.out 0 (by omega)
                have hz0 := HPS.out.z0.2 (by omega)
                rw [hd0 rfl, hz0] at g1
                rw [hz0] at g2
                rw [← hm] at ch hd2
                subst hbk
                unfold cV at g1 g2
                have z00 : FloatKind.f32.format.order 0 0 = some .eq := by decide +kernel
                have m0 : (0 : Int) < (m : Int) := by omega
                have i1 : (0 : Int) < (M : Int) := by omega
                have i2 : (0 : Int) < (N : Int) := by omega
                obtain ⟨A, hA⟩ : ∃ A, A = sumD ls ls.length := ⟨_, rfl⟩
                obtain ⟨B, hB⟩ : ∃ B, B = wantF p t tot j := ⟨_, rfl⟩
                obtain ⟨G, hG⟩ : ∃ G, G = gapF A B := ⟨_, rfl⟩
                rw [← hA, ← hB, ← hG] at HGP
                rw [← hA, ← hB, ← hG] at hfin
                rw [← hA, ← hB]
                clear hat hnear q16 e16 qM e15 het hsc hcc hch hm hz0 hA hB hG hd0 hlt2
                go_wp2_with fail
                go_quiet ((go_at_call 10; first | refine quiet_of3 HGP.out | refine quiet_of0 HGP.out))
                go_wp2_with fail
                go_ret
                exact ⟨rfl, below_dr (below_dr HB6.out _) _⟩
  · go_wp2_with fail
    refine (b10LongYes a1 a2 n1 n2 ca1 ca2 hsz w).mono ?_
    rintro e w0 ⟨rfl, rfl⟩
    go_wp2_with fail
    go_ret
    exact ⟨rfl, Below.refl _ _⟩
end Go.Proofs.Ytodkhkphagcfiaa

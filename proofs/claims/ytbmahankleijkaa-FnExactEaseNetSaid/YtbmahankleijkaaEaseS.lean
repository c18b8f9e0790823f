/- Contract: EaseNet, the reference's. -/
import Derived.Test.YtbmahankleijkaaEaseD
import Derived.Test.YtbmahankleijkaaFpS
import Derived.Test.YtbmahankleijkaaCrs
import Derived.Test.YtbmahankleijkaaTrk2
namespace Go.Proofs.Ytbmahankleijkaa
open Go.RowKit Go.Fl

/-- block b reads as spots, f i the spot at place i -/
def SpsF (w : World) (b n : Nat) (f : Nat → Sp) : Prop := ∀ p, p < n → ∃ x y z, w.cell? ⟨b, p * 3, none⟩ = some (.float .f32 x) ∧ w.cell? ⟨b, p * 3 + 1, none⟩ = some (.float .f32 y) ∧ w.cell? ⟨b, p * 3 + 2, none⟩ = some (.float .f32 z) ∧ IsSp x y z (f p)
theorem SpsF.far {w w' : World} {b n lo hi : Nat} {f : Nat → Sp} (h : SpsF w b n f) (hf : Far lo hi w w') (h1 : lo ≤ b) (h2 : b < hi) : SpsF w' b n f := fun p hp => by
  obtain ⟨x, y, z, c1, c2, c3, q⟩ := h p hp
  exact ⟨x, y, z, (hf.cell h1 h2).trans c1, (hf.cell h1 h2).trans c2, (hf.cell h1 h2).trans c3, q⟩
theorem SpsF.congr {w : World} {b n : Nat} {f g : Nat → Sp} (h : SpsF w b n f) (e : ∀ p, p < n → f p = g p) : SpsF w b n g := fun p hp => by rw [← e p hp]; exact h p hp
theorem SlP.spsF {w : World} {b : Nat} {ps : List Sp} (h : SlP w b (b + 1) (some ⟨b, 0, none⟩) ps) : SpsF w b ps.length (fun i => pAt ps i) := fun p hp => by
  obtain ⟨b', o, e, _, _, hc⟩ := h (by omega)
  cases e
  obtain ⟨x, y, z, c1, c2, c3, g1, g2, g3⟩ := hc p hp
  rw [Nat.zero_add] at c1 c2 c3
  exact ⟨x, y, z, c1, c2, c3, IsSp.of g1 g2 g3⟩
theorem SpsF.slP {w : World} {b : Nat} {ps : List Sp} (h : SpsF w b ps.length (fun i => pAt ps i)) : SlP w b (b + 1) (some ⟨b, 0, none⟩) ps := fun _ => by
  refine ⟨b, 0, rfl, Nat.le_refl _, Nat.lt_succ_self _, fun i hi => ?_⟩
  obtain ⟨x, y, z, c1, c2, c3, q⟩ := h i hi
  rw [Nat.zero_add]
  exact ⟨x, y, z, c1, c2, c3, q.f1, q.f2, q.f3⟩
theorem set3_cells {w : World} {b o : Nat} {x y z : Value} (h0 : (w.cell? ⟨b, o, none⟩).isSome = true) (h1 : (w.cell? ⟨b, o + 1, none⟩).isSome = true) (h2 : (w.cell? ⟨b, o + 2, none⟩).isSome = true) :
    (((w.setCell ⟨b, o, none⟩ x).setCell ⟨b, o + 1, none⟩ y).setCell ⟨b, o + 2, none⟩ z).cell? ⟨b, o, none⟩ = some x ∧ (((w.setCell ⟨b, o, none⟩ x).setCell ⟨b, o + 1, none⟩ y).setCell ⟨b, o + 2, none⟩ z).cell? ⟨b, o + 1, none⟩ = some y ∧
    (((w.setCell ⟨b, o, none⟩ x).setCell ⟨b, o + 1, none⟩ y).setCell ⟨b, o + 2, none⟩ z).cell? ⟨b, o + 2, none⟩ = some z ∧ ∀ p, p ≠ o → p ≠ o + 1 → p ≠ o + 2 → (((w.setCell ⟨b, o, none⟩ x).setCell ⟨b, o + 1, none⟩ y).setCell ⟨b, o + 2, none⟩ z).cell? ⟨b, p, none⟩ = w.cell? ⟨b, p, none⟩ := by
  obtain ⟨u0, e0⟩ := Option.isSome_iff_exists.1 h0
  obtain ⟨u1, e1⟩ := Option.isSome_iff_exists.1 h1
  obtain ⟨u2, e2⟩ := Option.isSome_iff_exists.1 h2
  have ne : ∀ {p q : Nat}, p ≠ q → (⟨b, p, none⟩ : Addr) ≠ ⟨b, q, none⟩ := fun h e => h (by cases e; rfl)
  refine ⟨?_, ?_, ?_, fun p n0 n1 n2 => ?_⟩
  · rw [World.cell?_setCell_other _ _ _ _ (ne (by omega)), World.cell?_setCell_other _ _ _ _ (ne (by omega))]
    exact World.cell?_setCell_same _ _ _ e0
  · rw [World.cell?_setCell_other _ _ _ _ (ne (by omega))]
    exact World.cell?_setCell_same _ _ _ ((World.cell?_setCell_other _ _ _ _ (ne (by omega))).trans e1)
  · exact World.cell?_setCell_same _ _ _ ((World.cell?_setCell_other _ _ _ _ (ne (by omega))).trans ((World.cell?_setCell_other _ _ _ _ (ne (by omega))).trans e2))
  · rw [World.cell?_setCell_other _ _ _ _ (ne (by omega)), World.cell?_setCell_other _ _ _ _ (ne (by omega)), World.cell?_setCell_other _ _ _ _ (ne (by omega))]
theorem SpsF.set {w : World} {b n i : Nat} {f g : Nat → Sp} {x y z : Nat} (h : SpsF w b n f) (hi : i < n) (hq : IsSp x y z (g i)) (hg : ∀ p, p < n → p ≠ i → g p = f p) :
    SpsF (((w.setCell ⟨b, i * 3, none⟩ (.float .f32 x)).setCell ⟨b, i * 3 + 1, none⟩ (.float .f32 y)).setCell ⟨b, i * 3 + 2, none⟩ (.float .f32 z)) b n g := fun p hp => by
  obtain ⟨a0, a1, a2, e0, e1, e2, _⟩ := h i hi
  obtain ⟨s0, s1, s2, s3⟩ := set3_cells (w := w) (b := b) (o := i * 3) (x := .float .f32 x) (y := .float .f32 y) (z := .float .f32 z) (by rw [e0]; rfl) (by rw [e1]; rfl) (by rw [e2]; rfl)
  by_cases hpi : p = i
  · subst hpi
    exact ⟨x, y, z, s0, s1, s2, hq⟩
  · obtain ⟨u, v, t, c0, c1, c2, q⟩ := h p hp
    refine ⟨u, v, t, ?_, ?_, ?_, by rw [hg p hp hpi]; exact q⟩
    · rw [s3 _ (by omega) (by omega) (by omega)]; exact c0
    · rw [s3 _ (by omega) (by omega) (by omega)]; exact c1
    · rw [s3 _ (by omega) (by omega) (by omega)]; exact c2
theorem keep_set3 {w : World} {b b' o i j k : Nat} {v x y z : Value} (hne : b ≠ b') (h : w.cell? ⟨b, o, none⟩ = some v) : (((w.setCell ⟨b', i, none⟩ x).setCell ⟨b', j, none⟩ y).setCell ⟨b', k, none⟩ z).cell? ⟨b, o, none⟩ = some v := by
  rw [World.cell?_setCell_far _ _ _ _ (Ne.symm hne), World.cell?_setCell_far _ _ _ _ (Ne.symm hne), World.cell?_setCell_far _ _ _ _ (Ne.symm hne), h]
theorem timesS (x y z b t : Nat) (p : Sp) (hp : IsSp x y z p) (hb : F32 b t) (w : World) :
    Calls Try.prog 85 #[.agg #[.float .f32 x, .float .f32 y, .float .f32 z], .float .f32 b] w fun e w' => (∃ a b c, e = .returned (.agg #[.float .f32 a, .float .f32 b, .float .f32 c]) ∧ IsSp a b c (spMul p t)) ∧ Below w.heap.size w w' := l04Times x y z b t p hp hb w

set_option maxHeartbeats 2000000 in
set_option maxRecDepth 100000 in
theorem easeS (lo hi : Nat) (sa fa : Option Addr) (sc fc : Nat) (ps : List Sp) (fs : List (List Int)) (sh : Nat) (hp : ps.length ≤ 1048576) (hn : fs.length ≤ 1048576) (hsh : ∀ i, i < fs.length → (fAt fs i).length ≤ 1048576) (w : World)
    (hs : NetAt w lo hi sa fa ps fs) (hh : hi ≤ w.heap.size) :
    Calls Try.prog 38 #[netV sa fa ps.length sc fs.length fc, .float .f32 sh] w (RetN (ezRP ps fs (can .f32 sh)) (ezRF ps fs (can .f32 sh)) (ezO ps fs (can .f32 sh)) w) := by
  have hA : Far lo hi w ((w.alloc (.cells #[.slice sa ps.length sc, .slice fa fs.length fc] 33)).alloc (.cells #[.slice none 0 0, .slice none 0 0] 33)) := ((Far.refl _ _ _).alloc _ hh).alloc _ (by simp; omega)
  have A0 : OwnC ((w.alloc (.cells #[.slice sa ps.length sc, .slice fa fs.length fc] 33)).alloc (.cells #[.slice none 0 0, .slice none 0 0] 33)) w.heap.size #[.slice sa ps.length sc, .slice fa fs.length fc] 33 := (OwnC.new rfl).alloc _
  have R0 : OwnC ((w.alloc (.cells #[.slice sa ps.length sc, .slice fa fs.length fc] 33)).alloc (.cells #[.slice none 0 0, .slice none 0 0] 33)) (w.heap.size + 1) #[.slice none 0 0, .slice none 0 0] 33 := OwnC.new (by simp)
  have HBA : Hid (Below w.heap.size w ((w.alloc (.cells #[.slice sa ps.length sc, .slice fa fs.length fc] 33)).alloc (.cells #[.slice none 0 0, .slice none 0 0] 33))) := by
    show Below _ _ _
    (repeat (first | exact Below.refl _ _ | assumption | refine below_dr ?_ _ | refine Below.alloc ?_ (by first | omega | (simp; done) | (simp; omega)) _ | refine Below.setCell ?_ (by first | omega | (simp; done) | (simp; omega)) _ | refine Below.trans ?_ (Below.mono (by assumption) (by first | omega | (simp; done) | (simp; omega)))))
  have IS := Lib.hid (l06Is lo hi w.heap.size sa fa sc fc ps fs hp hn hsh _ (A0.cell 0) (A0.cell 1) (hs.far hA) (by simp; omega))
  have HS := Lib.hid (hs.far hA)
  have HSH := Lib.hid hsh
  have HA0 := Lib.hid A0
  have HR0 := Lib.hid R0
  clear hs hsh A0 R0 hA
  unfold netV
  cases hv : okN ps fs
  · have HV : Hid (dec (OkNet ps fs (colA fs) (colB fs)) = false) := Lib.hid hv
    have HC : Hid (ezO ps fs (can .f32 sh) = false) := Lib.hid (by simp [ezO, hv])
    clear hv
    go_enter Try.func38, Try.ntmps38
    go_wp2_with (go_at_call 44; refine IS.out.mono ?_; rintro e w3 ⟨rfl, hb3⟩; rw [HV.out]; have R3 := HR0.out.below hb3 (by simp); have r0 := R3.cell 0; have r1 := R3.cell 1; have g0 := R3.free 0; have g1 := R3.free 1; simp at r0 r1)
    have R := (R3.set 0 (.slice none 0 0)).set 1 (.slice none 0 0)
    have q0 := R.cell 0
    have q1 := R.cell 1
    simp at q0 q1
    refine bodyPost_ret (v := .tuple #[.agg #[.slice none 0 0, .slice none 0 0], .bool false]) (by simp [results, Try.results38, go_sem, *]) rfl ?_
    exact RetN.noE HC.out (((HBA.out.trans (hb3.mono (by simp; omega))).setCell (p := ⟨w.heap.size + 1, 0, none⟩) (by simp) (.slice none 0 0)).setCell (p := ⟨w.heap.size + 1, 1, none⟩) (by simp) (.slice none 0 0))
  have HV : Hid (dec (OkNet ps fs (colA fs) (colB fs)) = true) := Lib.hid hv
  have HOKN := Lib.hid (okN_net hv)
  cases ht : in01 (can .f32 sh)
  · have HT := Lib.hid ht
    have HC : Hid (ezO ps fs (can .f32 sh) = false) := Lib.hid (by simp [ezO, ht])
    clear hv ht
    go_enter Try.func38, Try.ntmps38
    go_wp2_with (first
      | (go_at_call 44; refine IS.out.mono ?_; rintro e w3 ⟨rfl, hb3⟩; rw [HV.out]; have R3 := Lib.hid (HR0.out.below hb3 (by simp)); have HB3 := Lib.hid (HBA.out.trans (hb3.mono (by simp; omega))); clear hb3)
      | (go_at_call 81; refine (shareS sh _).mono ?_; rintro e w4 ⟨rfl, n, rfl⟩; rw [HT.out]; have R4 := R3.out.drewN n; have r0 := R4.cell 0; have r1 := R4.cell 1; have g0 := R4.free 0; have g1 := R4.free 1; simp at r0 r1 g0 g1))
    have R := (R4.set 0 (.slice none 0 0)).set 1 (.slice none 0 0)
    have q0 := R.cell 0
    have q1 := R.cell 1
    simp at q0 q1
    refine bodyPost_ret (v := .tuple #[.agg #[.slice none 0 0, .slice none 0 0], .bool false]) (by simp [results, Try.results38, go_sem, *]) rfl ?_
    exact RetN.noE HC.out (by have := ((HB3.out.setCell (p := ⟨w.heap.size + 1, 0, none⟩) (by simp) (.slice none 0 0)).setCell (p := ⟨w.heap.size + 1, 1, none⟩) (by simp) (.slice none 0 0)); first | exact below_dr this _ | exact ((below_dr HB3.out n).setCell (p := ⟨w.heap.size + 1, 0, none⟩) (by simp) (.slice none 0 0)).setCell (p := ⟨w.heap.size + 1, 1, none⟩) (by simp) (.slice none 0 0))
  have HT := Lib.hid ht
  have HOK := Lib.hid (OkNet.sideOk HOKN.out)
  have hp0 : 0 < ps.length := by have := HOKN.out.n3; omega
  have hn0 : 0 < fs.length := by have := HOKN.out.f1; omega
  have H1 : Hid (∀ i, i < fs.length → 0 < (fAt fs i).length) := Lib.hid fun i h => by have := (HOKN.out.facets i h).1; omega
  have HO1 : Hid (ezO ps fs (can .f32 sh) = okN (ezL ps fs (can .f32 sh)) fs) := Lib.hid (by simp [ezO, hv, ht])
  have hl1 : (prL false fs).length ≤ 1048576 := by have := prX_len (bo := false) (ps := ps) (fs := fs); rw [prX_yes hv] at this; exact this
  have hl2 : (prL true fs).length ≤ 1048576 := by have := prX_len (bo := true) (ps := ps) (fs := fs); rw [prX_yes hv] at this; exact this
  clear hv ht
  go_enter Try.func38, Try.ntmps38
  go_wp2_with (first
    | (go_at_call 44; refine IS.out.mono ?_; rintro e w3 ⟨rfl, hb3⟩; rw [HV.out]; have HB3 := Lib.hid (HBA.out.trans (hb3.mono (by simp; omega))); have HA3 := Lib.hid (HA0.out.below hb3 (by simp; omega)); have HR3 := Lib.hid (HR0.out.below hb3 (by simp)); have HS3 := Lib.hid (HS.out.far (Far.below hb3 (by simp; omega))); have z3 : w.heap.size + 1 + 1 ≤ w3.heap.size := (by have := hb3.size; simpa using this); clear hb3)
    | (go_at_call 81; refine (shareS sh w3).mono ?_; rintro e w4 ⟨rfl, n, hw4⟩; rw [HT.out]; have hb4 : Below w3.heap.size w3 w4 := (by rw [hw4]; exact below_dr (Below.refl _ _) n); have z4 := hb4.size; have HB4 := Lib.hid (HB3.out.trans (hb4.mono (by omega))); have HA4 := Lib.hid (HA3.out.below hb4 (by omega)); have HR4 := Lib.hid (HR3.out.below hb4 (by omega)); have HS4 := Lib.hid (HS3.out.far (Far.below hb4 (by omega))); have P40 : Hid (w4.cell? ⟨w.heap.size, 0, none⟩ = some (.slice sa ps.length sc)) := Lib.hid (HA4.out.cell 0); have P41 : Hid (w4.cell? ⟨w.heap.size, 1, none⟩ = some (.slice fa fs.length fc)) := Lib.hid (HA4.out.cell 1); have Q4 : Hid (hi ≤ w4.heap.size) := Lib.hid (by omega); clear hb4 hw4)
    | (go_at_call 54; (with_reducible refine (l06Pairs lo hi w.heap.size sa fa ps.length sc fc fs false hn HSH.out HOK.out w4 P40.out P41.out HS4.out.facets Q4.out).mono ?_); rintro e w5 ⟨eb, ec, rfl, hE, hEb, hb5⟩; have z5 := hb5.size; have HB5 := Lib.hid (HB4.out.trans (hb5.mono (by omega))); have HA5 := Lib.hid (HA4.out.below hb5 (by omega)); have HR5 := Lib.hid (HR4.out.below hb5 (by omega)); have HS5 := Lib.hid (HS4.out.far (Far.below hb5 (by omega))); have P50 : Hid (w5.cell? ⟨w.heap.size, 0, none⟩ = some (.slice sa ps.length sc)) := Lib.hid (HA5.out.cell 0); have P51 : Hid (w5.cell? ⟨w.heap.size, 1, none⟩ = some (.slice fa fs.length fc)) := Lib.hid (HA5.out.cell 1); have Q5 : Hid (hi ≤ w5.heap.size) := Lib.hid (by omega); have HE5 := Lib.hid hE; have hEl := hE.lt; clear hE hb5)
    | (go_at_call 54; (with_reducible refine (l06Pairs lo hi w.heap.size sa fa ps.length sc fc fs true hn HSH.out HOK.out w5 P50.out P51.out HS5.out.facets Q5.out).mono ?_); rintro e w6 ⟨db, dc, rfl, hD, hDb, hb6⟩; have z6 := hb6.size; have HB6 := Lib.hid (HB5.out.trans (hb6.mono (by omega))); have HA6 := Lib.hid (HA5.out.below hb6 (by omega)); have HR6 := Lib.hid (HR5.out.below hb6 (by omega)); have HS6 := Lib.hid (HS5.out.far (Far.below hb6 (by omega))); have HE6 := Lib.hid (HE5.out.below hb6 hEl); have HD6 := Lib.hid hD; have hDl := hD.lt; clear hD hb6)
    | (go_at_call 62; refine (l06Own lo hi w.heap.size sa fa sc fc ps fs hp hn HSH.out hp0 hn0 H1.out w6 (HA6.out.cell 0) (HA6.out.cell 1) HS6.out (by omega)).mono ?_; rintro e w7 ⟨⟨bs, c1, bf, c2, g, rfl, hN⟩, hb7⟩; have z7 := hb7.size; have HB7 := Lib.hid (HB6.out.trans (hb7.mono (by omega))); have HA7 := Lib.hid (HA6.out.below hb7 (by omega)); have HR7 := Lib.hid (HR6.out.below hb7 (by omega)); have HS7 := Lib.hid (HS6.out.far (Far.below hb7 (by omega))); have HE7 := Lib.hid (HE6.out.below hb7 (by omega)); have HD7 := Lib.hid (HD6.out.below hb7 hDl); have HN7 := Lib.hid hN; clear hN hb7))
  clear P40 P41 P50 P51 Q4 Q5
  clear HB3 HB4 HB5 HB6 HA3 HA4 HA5 HA6 HR3 HR4 HR5 HR6 HS3 HS4 HS5 HS6 HE5 HE6 HD6 HBA HA0 HR0 HS IS
  have hO : OwnC (w7.alloc (.cells #[.slice (some ⟨bs, 0, none⟩) ps.length c1, .slice (some ⟨bf, 0, none⟩) fs.length c2] 33)) w7.heap.size #[.slice (some ⟨bs, 0, none⟩) ps.length c1, .slice (some ⟨bf, 0, none⟩) fs.length c2] 33 := OwnC.new rfl
  have hB : Below w7.heap.size w7 (w7.alloc (.cells #[.slice (some ⟨bs, 0, none⟩) ps.length c1, .slice (some ⟨bf, 0, none⟩) fs.length c2] 33)) := Below.alloc (Below.refl _ _) (Nat.le_refl _) _
  have z8 : (w7.alloc (.cells #[.slice (some ⟨bs, 0, none⟩) ps.length c1, .slice (some ⟨bf, 0, none⟩) fs.length c2] 33)).heap.size = w7.heap.size + 1 := by simp
  generalize w7.alloc (.cells #[.slice (some ⟨bs, 0, none⟩) ps.length c1, .slice (some ⟨bf, 0, none⟩) fs.length c2] 33) = wb at *
  have HO := Lib.hid hO
  have HB := Lib.hid (HB7.out.trans (hB.mono (by omega)))
  have HA := Lib.hid (HA7.out.below hB (by omega))
  have HR := Lib.hid (HR7.out.below hB (by omega))
  have HS := Lib.hid (HS7.out.far (Far.below hB (by omega)))
  have HE := Lib.hid (HE7.out.below hB (by omega))
  have HD := Lib.hid (HD7.out.below hB (by omega))
  have HN := Lib.hid (HN7.out.far (Far.below hB (by omega)))
  clear hO hB HB7 HA7 HR7 HS7 HE7 HD7 HN7
  have hlow := HN.out.low
  have hap := HN.out.apart
  have HAP := Lib.hid hap
  clear hap
  have HI0 : Hid (SpsF wb bs ps.length (fun p => if p < 0 then ezP ps fs (can .f32 sh) p else pAt ps p)) := Lib.hid ((SlP.spsF HN.out.spots).congr fun p _ => (if_neg (Nat.not_lt_zero _)).symm)
  have HRM0 : Hid (Room wb bs (ps.length * 3)) := Lib.hid HN.out.room
  go_loopw [9] (fun i wr => ∃ j : Nat, j ≤ ps.length ∧ i = .int .i64 j ∧ Hid (Ch (fun c => c = bs) wb wr) ∧ Hid (Room wr bs (ps.length * 3)) ∧ Hid (SpsF wr bs ps.length (fun p => if p < j then ezP ps fs (can .f32 sh) p else pAt ps p))) (fun i _ => ps.length - (intOf i).toNat)
  case atStart => exact ⟨0, by omega, rfl, Lib.hid (Ch.refl _ _), HRM0, HI0⟩
  case round =>
    clear HI0 HRM0
    obtain ⟨j, hj, rfl, HCH, HRM, HSP⟩ := hrel
    have hzr := HCH.out.size
    have hA1 : OwnC wr w.heap.size #[.slice sa ps.length sc, .slice fa fs.length fc] 33 := HCH.out.own HA.out (by omega)
    have a0 := hA1.cell 0
    have a1 := hA1.cell 1
    simp at a0 a1
    clear hA1
    by_cases hlt : j < ps.length
    · have k0 : (0 : Int) ≤ (j : Int) := by omega
      have k1 : (j : Int) < (ps.length : Int) := by omega
      obtain ⟨m1, hm1, ho1⟩ := oth_borders HOK.out (j : Int)
      obtain ⟨m2, hm2, ho2⟩ := oth_edges HOK.out (j : Int)
      have HDR := Lib.hid ((HD.out.far (lo := db) (hi := db + 1) (HCH.out.far (by omega) (fun b h1 h2 e => by omega)) (Nat.le_refl _) (Nat.lt_succ_self _)).ints rfl)
      have HER := Lib.hid ((HE.out.far (lo := eb) (hi := eb + 1) (HCH.out.far (by omega) (fun b h1 h2 e => by omega)) (Nat.le_refl _) (Nat.lt_succ_self _)).ints rfl)
      have HC1 := Lib.hid (l06Others db (db + 1) (some ⟨db, 0, none⟩) dc m1 (prL true fs) j hl2 hm1 wr HDR.out (by omega))
      rw [ho1] at HC1
      have HO2 := Lib.hid ho2
      have HM2 := Lib.hid hm2
      have hla := othA_len HOKN.out (j : Int)
      have hin := oth_in HOKN.out (j : Int)
      have HIN := Lib.hid hin
      clear ho1 ho2 hm1 hm2 hin
      by_cases hz : (othBd fs (j : Int)).length = 0
      · have hz1 : ((othBd fs (j : Int)).length : Int) = 0 := by omega
        have HZ1 := Lib.hid hz1
        have HEZ : Hid (ezP ps fs (can .f32 sh) j = spAdd (pAt ps j) (spMul (spSub (meanQ (qsOf ps (othA fs (j : Int)))) (pAt ps j)) (can .f32 sh))) := Lib.hid (by unfold ezP; rw [if_pos hz])
        have HZL := Lib.hid hz
        clear hz1 hz
        have HQ3 : Hid (eb < wr.heap.size) := Lib.hid (by omega)
        go_wp2_with (first
          | (go_at_call 82; (with_reducible refine HC1.out.mono ?_); rintro e w3 ⟨⟨b1, cap1, rfl, hr1, hbb1⟩, hb3⟩; rw [HZL.out]; have HB3 := Lib.hid hb3; have HER3 := Lib.hid (HER.out.far (Far.below hb3 HQ3.out)); have HQ4 : Hid (eb + 1 ≤ w3.heap.size) := Lib.hid (Nat.le_trans HQ3.out hb3.size); clear hr1 hb3)
          | (go_at_call 82; (with_reducible refine (l06Others eb (eb + 1) (some ⟨eb, 0, none⟩) ec m2 (prL false fs) j hl1 HM2.out w3 HER3.out HQ4.out).mono ?_); rintro e w4 ⟨⟨b2, cap2, rfl, hr2, hbb2⟩, hb4⟩; rw [HO2.out] at hr2 ⊢; have HB4 := Lib.hid (HB3.out.trans (hb4.mono HB3.out.size)); have HR2 := Lib.hid hr2; have HZB : Hid (w3.heap.size ≤ b2) := Lib.hid hbb2; clear hr2 hb4 hbb2))
        have z4 := HB4.out.size
        have hb2l := HR2.out.lt
        have hb2 : wr.heap.size ≤ b2 := Nat.le_trans HB3.out.size HZB.out
        have HBM : Hid (Below wr.heap.size wr (w4.alloc (.cells #[.float .f32 0, .float .f32 0, .float .f32 0] 79))) := Lib.hid (HB4.out.alloc z4 _)
        have HOM : Hid (OwnC (w4.alloc (.cells #[.float .f32 0, .float .f32 0, .float .f32 0] 79)) w4.heap.size #[.float .f32 0, .float .f32 0, .float .f32 0] 79) := Lib.hid (OwnC.new rfl)
        have HR2M := Lib.hid (HR2.out.below (Below.alloc (Below.refl w4.heap.size w4) (Nat.le_refl _) (.cells #[.float .f32 0, .float .f32 0, .float .f32 0] 79)) hb2l)
        have zm : (w4.alloc (.cells #[.float .f32 0, .float .f32 0, .float .f32 0] 79)).heap.size = w4.heap.size + 1 := by simp
        generalize w4.alloc (.cells #[.float .f32 0, .float .f32 0, .float .f32 0] 79) = wm at *
        generalize w4.heap.size = mb at *
        have HCM := Lib.hid (HCH.out.trans (P' := fun _ => False) (Ch.below HBM.out) (fun b hb => hb.elim))
        have hbsl : bs < wr.heap.size := by omega
        have HRMM := Lib.hid (HRM.out.far (lo := 0) (hi := wr.heap.size) (Far.below HBM.out (Nat.le_refl _)) (Nat.zero_le _) hbsl)
        have HSPM := Lib.hid (HSP.out.far (lo := 0) (hi := wr.heap.size) (Far.below HBM.out (Nat.le_refl _)) (Nat.zero_le _) hbsl)
        have HSM : Hid (NetAt wm lo hi sa fa ps fs) := Lib.hid (HS.out.far (HCM.out.far (by omega) (fun b h1 h2 e => by omega)))
        have HLI := Lib.hid (HR2M.out.ints rfl)
        have HAM : Hid (OwnC wm w.heap.size #[.slice sa ps.length sc, .slice fa fs.length fc] 33) := Lib.hid (HCM.out.own HA.out (by omega))
        have HOBM : Hid (OwnC wm w7.heap.size #[.slice (some ⟨bs, 0, none⟩) ps.length c1, .slice (some ⟨bf, 0, none⟩) fs.length c2] 33) := Lib.hid (HCM.out.own HO.out (by omega))
        clear HCH HRM HSP a0 a1 HB3 HB4 HER3 HR2 HR2M HBM HDR HER HC1 HZ1
        generalize othA fs (j : Int) = L at *
        have HQL := Lib.hid (qsOf_len ps L)
        go_loopw [13] (fun v wq => ∃ (k x y z : Nat), k ≤ L.length ∧ v = .int .i64 k ∧ Hid (Ch (fun c => c = mb) wm wq) ∧ Hid (OwnC wq mb #[.float .f32 x, .float .f32 y, .float .f32 z] 79) ∧ Hid (IsSp x y z (sumQ (qsOf ps L) k))) (fun v _ => L.length - (intOf v).toNat)
        case atStart =>
          refine ⟨0, 0, 0, 0, by omega, rfl, Lib.hid (Ch.refl _ _), HOM, Lib.hid ?_⟩
          show (can .f32 0, can .f32 0, can .f32 0) = _
          rw [can_l5]; rfl
        case round =>
          clear HOM
          obtain ⟨k, x, y, z, hk, rfl, HCQ, HOQ, HQ⟩ := hrel
          have o0 := HOQ.out.cell 0
          have o1 := HOQ.out.cell 1
          have o2 := HOQ.out.cell 2
          simp at o0 o1 o2
          have hzq := HCQ.out.size
          have hsq : NetAt wr lo hi sa fa ps fs := HSM.out.far (HCQ.out.far (by omega) (fun b h1 h2 e => by omega))
          have hmq := HOQ.out.lt
          have hAQ : OwnC wr w.heap.size #[.slice sa ps.length sc, .slice fa fs.length fc] 33 := HCQ.out.own HAM.out (by omega)
          have p0 := hAQ.cell 0
          simp at p0
          have HSQ := Lib.hid hsq
          clear hsq hAQ
          by_cases hlt3 : k < L.length
          · obtain ⟨b2', o2', e2', _, _, hc2⟩ := HLI.out (by omega)
            cases e2'
            have e1 := HCQ.out.cell (hc2 k hlt3) (by omega)
            obtain ⟨v, sb, so, x', y', z', hv, hvl, hsa, l1, l2, c1, c2, c3, q1⟩ := cornAt HSQ.out.spots HIN.out hlt3
            subst hsa
            rw [hv, Nat.zero_add] at e1
            have HP := Lib.hid q1
            have HQE : Hid (pAt (qsOf ps L) k = cornP ps L k) := Lib.hid (by rw [qsOf_at hlt3]; rfl)
            have t0 : (0 : Int) ≤ (k : Int) := by omega
            have t1 : (k : Int) < (L.length : Int) := by omega
            have v0 : (0 : Int) ≤ (v : Int) := by omega
            have v1 : (v : Int) < (ps.length : Int) := by omega
            clear hc2 q1 hv
            go_wp2_with fail
            go_still_tail 9, (by kernel_rfl)
            change wpList _ _ _ _ _ wr.drew
            go_wp2_with (go_at_call 83; refine (addS x y z x' y' z' _ _ HQ.out HP.out wr.drew).mono ?_; rintro e w3 ⟨⟨a, b, c, rfl, hab⟩, hb3⟩; have HAB := Lib.hid hab; have HO3 := Lib.hid ((HOQ.out.drewN 1).below hb3 hmq); have e0 := HO3.out.cell 0; have e1' := HO3.out.cell 1; have e2 := HO3.out.cell 2; simp at e0 e1' e2; have g0 := HO3.out.free 0; have g1 := HO3.out.free 1; have g2 := HO3.out.free 2; have HB3 : Hid (Below wr.heap.size wr w3) := Lib.hid ⟨hb3.os, hb3.tape, hb3.output, hb3.size, hb3.block⟩; clear hab hb3)
            have HO4 : Hid (OwnC (((w3.setCell ⟨mb, 0, none⟩ (.float .f32 a)).setCell ⟨mb, 1, none⟩ (.float .f32 b)).setCell ⟨mb, 2, none⟩ (.float .f32 c)) mb #[.float .f32 a, .float .f32 b, .float .f32 c] 79) :=
              (((HO3.out.set 0 _).set 1 _).set 2 _).congr rfl
            have HC4 : Hid (Ch (fun c => c = mb) wm (((w3.setCell ⟨mb, 0, none⟩ (.float .f32 a)).setCell ⟨mb, 1, none⟩ (.float .f32 b)).setCell ⟨mb, 2, none⟩ (.float .f32 c))) := Lib.hid (by
              have h0 : Ch (fun c => c = mb) wm w3 := HCQ.out.trans (P' := fun _ => False) (Ch.below HB3.out) (fun b hb => hb.elim)
              have h1 := h0.trans (P' := fun c => c = mb) (Ch.set w3 ⟨mb, 0, none⟩ (.float .f32 a) rfl) (fun b hb => .inl hb)
              have h2 := h1.trans (P' := fun c => c = mb) (Ch.set _ ⟨mb, 1, none⟩ (.float .f32 b) rfl) (fun b hb => .inl hb)
              exact h2.trans (P' := fun c => c = mb) (Ch.set _ ⟨mb, 2, none⟩ (.float .f32 c) rfl) (fun b hb => .inl hb))
            have HQ4 : Hid (IsSp a b c (sumQ (qsOf ps L) (k + 1))) := Lib.hid (by
              show IsSp a b c (spAdd (sumQ (qsOf ps L) k) (pAt (qsOf ps L) k))
              rw [HQE.out]; exact HAB.out)
            go_roundw
            case rel => exact ⟨k + 1, a, b, c, by omega, by go_num, HC4, HO4, HQ4⟩
            case measure => simp [intOf]; omega
          · have hkn : k = L.length := by omega
            subst hkn
            have g0 := HOQ.out.free 0
            have g1 := HOQ.out.free 1
            have g2 := HOQ.out.free 2
            go_wp2_with (go_at_call 84; refine (overS x y z _ _ _ HQ.out (F32.mk _) _).mono ?_; rintro e w3 ⟨⟨a, b, c, rfl, hab⟩, hb3⟩; have HAB := Lib.hid hab; have HZ3 := Lib.hid (HOQ.out.below hb3 hmq); have e0 := HZ3.out.cell 0; have e1 := HZ3.out.cell 1; have e2 := HZ3.out.cell 2; simp at e0 e1 e2; have i0 := HZ3.out.free 0; have i1 := HZ3.out.free 1; have i2 := HZ3.out.free 2; have HB3 := Lib.hid hb3; clear hab hb3)
            have HO4 : Hid (OwnC (((w3.setCell ⟨mb, 0, none⟩ (.float .f32 a)).setCell ⟨mb, 1, none⟩ (.float .f32 b)).setCell ⟨mb, 2, none⟩ (.float .f32 c)) mb #[.float .f32 a, .float .f32 b, .float .f32 c] 79) :=
              (((HZ3.out.set 0 _).set 1 _).set 2 _).congr rfl
            have HC4 : Hid (Ch (fun c => c = mb) wm (((w3.setCell ⟨mb, 0, none⟩ (.float .f32 a)).setCell ⟨mb, 1, none⟩ (.float .f32 b)).setCell ⟨mb, 2, none⟩ (.float .f32 c))) := Lib.hid (by
              have h0 : Ch (fun c => c = mb) wm w3 := HCQ.out.trans (P' := fun _ => False) (Ch.below HB3.out) (fun b hb => hb.elim)
              have h1 := h0.trans (P' := fun c => c = mb) (Ch.set w3 ⟨mb, 0, none⟩ (.float .f32 a) rfl) (fun b hb => .inl hb)
              have h2 := h1.trans (P' := fun c => c = mb) (Ch.set _ ⟨mb, 1, none⟩ (.float .f32 b) rfl) (fun b hb => .inl hb)
              exact h2.trans (P' := fun c => c = mb) (Ch.set _ ⟨mb, 2, none⟩ (.float .f32 c) rfl) (fun b hb => .inl hb))
            have HME : Hid (IsSp a b c (meanQ (qsOf ps L))) := Lib.hid (by
              show IsSp a b c (spDiv (sumQ (qsOf ps L) (qsOf ps L).length) (cntF (qsOf ps L).length))
              rw [HQL.out]; exact HAB.out)
            clear e0 e1 e2 i0 i1 i2 g0 g1 g2 o0 o1 o2 p0 HZ3 HB3 HAB HQ
            generalize ((w3.setCell ⟨mb, 0, none⟩ (.float .f32 a)).setCell ⟨mb, 1, none⟩ (.float .f32 b)).setCell ⟨mb, 2, none⟩ (.float .f32 c) = wn at *
            have hzn := HC4.out.size
            have HCN := Lib.hid (HCM.out.trans HC4.out (fun b hb => .inr (by omega)))
            have hfn : Far 0 mb wm wn := HC4.out.far (by omega) (fun b h1 h2 e => by omega)
            have HRMN := Lib.hid (HRMM.out.far hfn (Nat.zero_le _) (by omega))
            have HSPN := Lib.hid (HSPM.out.far hfn (Nat.zero_le _) (by omega))
            have hAN : OwnC wn w.heap.size #[.slice sa ps.length sc, .slice fa fs.length fc] 33 := HCN.out.own HA.out (by omega)
            have hON : OwnC wn w7.heap.size #[.slice (some ⟨bs, 0, none⟩) ps.length c1, .slice (some ⟨bf, 0, none⟩) fs.length c2] 33 := HCN.out.own HO.out (by omega)
            obtain ⟨sb, so, rfl, l1, l2, hcs⟩ := (HSM.out.spots.far (hfn.mono (Nat.zero_le lo) (by omega))) (by omega)
            obtain ⟨x0, y0, z0, s0, s1, s2, f0, f1, f2⟩ := hcs j hlt
            have HPJ := Lib.hid (IsSp.of f0 f1 f2)
            have n0 := hAN.cell 0
            have b0 := hON.cell 0
            have m0 := HO4.out.cell 0
            have m1 := HO4.out.cell 1
            have m2 := HO4.out.cell 2
            simp at n0 b0 m0 m1 m2
            obtain ⟨ux, uy, uz, st0, st1, st2, _⟩ := HSPN.out j hlt
            have sf0 := HRMN.out.free (j * 3)
            have sf1 := HRMN.out.free (j * 3 + 1)
            have sf2 := HRMN.out.free (j * 3 + 2)
            have q1 : w.heap.size ≠ bs := by omega
            have q2 : w7.heap.size ≠ bs := by omega
            have q3 : sb ≠ bs := by omega
            have q4 : mb ≠ bs := by omega
            have HS0 : Hid (Below wn.heap.size wn wn.drew) := Lib.hid (below_dr (Below.refl _ _) 1)
            clear hAN hON hcs f0 f1 f2 hfn HSQ
            go_wp2_with fail
            go_region_held (fun w' => w'.cell? ⟨w.heap.size, 0, none⟩ = some (.slice (some ⟨sb, so, none⟩) ps.length sc) ∧
                w'.cell? ⟨w7.heap.size, 0, none⟩ = some (.slice (some ⟨bs, 0, none⟩) ps.length c1) ∧
                w'.cell? ⟨sb, so + j * 3, none⟩ = some (.float .f32 x0) ∧
                w'.cell? ⟨sb, so + j * 3 + 1, none⟩ = some (.float .f32 y0) ∧
                w'.cell? ⟨sb, so + j * 3 + 2, none⟩ = some (.float .f32 z0) ∧
                w'.cell? ⟨mb, 0, none⟩ = some (.float .f32 a) ∧
                w'.cell? ⟨mb, 1, none⟩ = some (.float .f32 b) ∧
                w'.cell? ⟨mb, 2, none⟩ = some (.float .f32 c))
              (refine ⟨?_, ?_, ?_, ?_, ?_, ?_, ?_, ?_⟩ <;> first | (with_reducible assumption) | ((with_reducible refine Trk.k0 ?_) <;> with_reducible assumption) | ((with_reducible refine keep_cell B3 ?_) <;> with_reducible assumption) | ((with_reducible refine keep_cell B2 ?_) <;> with_reducible assumption) | ((with_reducible refine keep_cell B1 ?_) <;> with_reducible assumption) | ((with_reducible refine keep_set3 ?_ ?_) <;> first | (with_reducible assumption) | ((with_reducible refine keep_cell B3 ?_) <;> with_reducible assumption)))
              ((first
                | (go_at_call 76; (with_reducible refine (lessS a b c x0 y0 z0 _ _ HME.out HPJ.out _).mono ?_); rintro e w4 ⟨⟨a1, b1, d1, rfl, h1⟩, hb4⟩; have K1 := Lib.hid h1; have B1 : Below wn.heap.size wn w4 := Below.trans HS0.out (hb4.mono (Nat.le_refl _)); clear h1 hb4)
                | (go_at_call 85; (with_reducible refine (timesS a1 b1 d1 sh _ _ K1.out (F32.mk sh) _).mono ?_); rintro e w5 ⟨⟨a2, b2, d2, rfl, h2⟩, hb5⟩; have K2 := Lib.hid h2; have B2 : Below wn.heap.size wn w5 := Below.trans B1 (hb5.mono B1.size); clear h2 hb5)
                | (go_at_call 83; (with_reducible refine (addS x0 y0 z0 a2 b2 d2 _ _ HPJ.out K2.out _).mono ?_); rintro e w6 ⟨⟨a3, b3, d3, rfl, h3⟩, hb6⟩; have K3 := Lib.hid h3; have B3 : Below wn.heap.size wn w6 := Below.trans B2 (hb6.mono B2.size); have st0' := keep_cell B3 st0; have st1' := keep_cell B3 st1; have st2' := keep_cell B3 st2; have HRM6 := Lib.hid (HRMN.out.far (lo := 0) (hi := wn.heap.size) (Far.below B3 (Nat.le_refl _)) (Nat.zero_le _) HRMN.out.lt); have sf0' := HRM6.out.free (j * 3); have sf1' := HRM6.out.free (j * 3 + 1); have sf2' := HRM6.out.free (j * 3 + 2); clear h3 hb6)))
            have HFC : Hid (Ch (fun c => c = bs) wb (((w6.setCell ⟨bs, j * 3, none⟩ (.float .f32 a3)).setCell ⟨bs, j * 3 + 1, none⟩ (.float .f32 b3)).setCell ⟨bs, j * 3 + 2, none⟩ (.float .f32 d3))) := Lib.hid (by
              have h0 : Ch (fun c => c = bs) wb w6 := HCN.out.trans (P' := fun _ => False) (Ch.below B3) (fun b hb => hb.elim)
              have h1 := h0.trans (P' := fun c => c = bs) (Ch.set w6 ⟨bs, j * 3, none⟩ (.float .f32 a3) rfl) (fun b hb => .inl hb)
              have h2 := h1.trans (P' := fun c => c = bs) (Ch.set _ ⟨bs, j * 3 + 1, none⟩ (.float .f32 b3) rfl) (fun b hb => .inl hb)
              exact h2.trans (P' := fun c => c = bs) (Ch.set _ ⟨bs, j * 3 + 2, none⟩ (.float .f32 d3) rfl) (fun b hb => .inl hb))
            have HFR := Lib.hid (((HRM6.out.set bs (j * 3) (.float .f32 a3)).set bs (j * 3 + 1) (.float .f32 b3)).set bs (j * 3 + 2) (.float .f32 d3))
            have HFS : Hid (SpsF (((w6.setCell ⟨bs, j * 3, none⟩ (.float .f32 a3)).setCell ⟨bs, j * 3 + 1, none⟩ (.float .f32 b3)).setCell ⟨bs, j * 3 + 2, none⟩ (.float .f32 d3)) bs ps.length (fun p => if p < j + 1 then ezP ps fs (can .f32 sh) p else pAt ps p)) := Lib.hid (by
              have h6 : SpsF w6 bs ps.length _ := HSPN.out.far (lo := 0) (hi := wn.heap.size) (Far.below B3 (Nat.le_refl _)) (Nat.zero_le _) HRMN.out.lt
              refine h6.set hlt ?_ (fun p _ hpj => ?_)
              · show IsSp a3 b3 d3 (if j < j + 1 then ezP ps fs (can .f32 sh) j else pAt ps j)
                rw [if_pos (Nat.lt_succ_self _), HEZ.out]; exact K3.out
              · show (if p < j + 1 then ezP ps fs (can .f32 sh) p else pAt ps p) = (if p < j then ezP ps fs (can .f32 sh) p else pAt ps p)
                by_cases h2 : p < j
                · rw [if_pos h2, if_pos (by omega)]
                · rw [if_neg h2, if_neg (by omega)])
            go_wp2_with fail
            go_roundw
            case rel => exact ⟨j + 1, by omega, by go_num, Lib.hid (by first | exact HFC.out | exact HFC.out.trans (P' := fun _ => False) (Ch.below (below_dr (Below.refl _ _) 1)) (fun b hb => hb.elim)), Lib.hid (by exact HFR.out), Lib.hid (by exact HFS.out)⟩
            case measure => simp [intOf]; omega
      · have hz1 : (0 : Int) < ((othBd fs (j : Int)).length : Int) := by omega
        have HEZ : Hid (ezP ps fs (can .f32 sh) j = pAt ps j) := Lib.hid (by unfold ezP; rw [if_neg hz])
        go_wp2_with (go_at_call 82; refine HC1.out.mono ?_; rintro e w3 ⟨⟨b1, cap1, rfl, hr1, hbb1⟩, hb3⟩; have HB3 := Lib.hid hb3; clear hr1 hb3)
        go_roundw
        case rel =>
          refine ⟨j + 1, by omega, by go_num, Lib.hid (HCH.out.trans (P' := fun _ => False) (Ch.below HB3.out) (fun b hb => hb.elim)), Lib.hid (HRM.out.far (lo := 0) (hi := wr.heap.size) (Far.below HB3.out (Nat.le_refl _)) (Nat.zero_le _) (by omega)), Lib.hid ((HSP.out.far (lo := 0) (hi := wr.heap.size) (Far.below HB3.out (Nat.le_refl _)) (Nat.zero_le _) (by omega)).congr fun p _ => ?_)⟩
          by_cases hpj : p = j
          · subst hpj
            rw [if_neg (by omega), if_pos (by omega), HEZ.out]
          · by_cases h2 : p < j
            · rw [if_pos h2, if_pos (by omega)]
            · rw [if_neg h2, if_neg (by omega)]
        case measure => simp [intOf]; omega
    · have hjn : j = ps.length := by omega
      subst hjn
      have HSL : Hid (SlP wr bs (bs + 1) (some ⟨bs, 0, none⟩) (ezL ps fs (can .f32 sh))) := Lib.hid (by
        refine SpsF.slP ?_
        rw [ezL_len]
        exact HSP.out.congr fun p hp2 => by rw [if_pos hp2, ezL_at hp2])
      have hON : OwnC wr w7.heap.size #[.slice (some ⟨bs, 0, none⟩) ps.length c1, .slice (some ⟨bf, 0, none⟩) fs.length c2] 33 := HCH.out.own HO.out (by omega)
      have hRN : OwnC wr (w.heap.size + 1) #[.slice none 0 0, .slice none 0 0] 33 := HCH.out.own HR.out (by omega)
      have hFN : OwnF wr w6.heap.size w7.heap.size bf g fs := by
        have hF := HN.out.facets
        have hk : ∀ c, c < wb.heap.size → c ≠ bs → wr.heap[c]? = wb.heap[c]? := fun c h1 h2 => HCH.out.block c h1 h2
        refine ⟨hF.row, fun i hi => ?_, hF.blk, hF.inj, fun i hi => ?_, fun i hi => ?_, fun i hi ai n ci e => ?_⟩
        · obtain ⟨ci, hd⟩ := hF.head i hi
          exact ⟨ci, HCH.out.cell hd (fun e => HAP.out.1 e.symm)⟩
        · have hb := hF.blk i hi
          have ha := HAP.out.2 i hi
          exact (hF.room i hi).far (lo := g i) (hi := g i + 1) (fun c h1 h2 => hk c (by omega) (by omega)) (Nat.le_refl _) (Nat.lt_succ_self _)
        · have hb := hF.blk i hi
          have ha := HAP.out.2 i hi
          exact (hF.reads i hi).far (fun c h1 h2 => hk c (by omega) (by omega))
        · obtain ⟨ci', hd⟩ := hF.head i hi
          have := HCH.out.cell hd (fun e => HAP.out.1 e.symm)
          rw [this] at e
          cases e
          exact hF.cap i hi _ _ _ hd
      have hNW : ONet wr w6.heap.size w7.heap.size (some ⟨bs, 0, none⟩) (some ⟨bf, 0, none⟩) (ezL ps fs (can .f32 sh)) fs :=
        ⟨⟨.inr ⟨bs, rfl, hlow.1, hlow.2, by rw [ezL_len]; exact HRM.out, HSL.out⟩⟩, .inr ⟨bf, g, rfl, hFN, fun b e => by cases e; exact HAP.out⟩⟩
      have hG := giveS w6.heap.size w7.heap.size (some ⟨bs, 0, none⟩) (some ⟨bf, 0, none⟩) c1 c2 (ezL ps fs (can .f32 sh)) fs (by rw [ezL_len]; exact hp) hn HSH.out wr hNW.net (by omega)
      rw [ezL_len] at hG
      have HNW := Lib.hid hNW
      have HBW : Hid (Below w.heap.size w wr) := Lib.hid (HB.out.trans (HCH.out.toBelow (by omega) (fun c hc => by omega)))
      have HRN := Lib.hid hRN
      have o0 := hON.cell 0
      have o1 := hON.cell 1
      simp at o0 o1
      have hrl := hRN.lt
      cases hvz : okN (ezL ps fs (can .f32 sh)) fs
      all_goals
        rw [hvz] at hG
        have HVZ := Lib.hid hvz
        have HG := Lib.hid hG
        clear hvz hG
        clear hON hRN hFN hNW
        go_wp2_with (go_at_call 86; refine HG.out.mono ?_; rintro e w9 ⟨rfl, hb9⟩; have R9 := HRN.out.below hb9 hrl; have r0 := R9.cell 0; have r1 := R9.cell 1; have i0 := R9.free 0; have i1 := R9.free 1; simp at r0 r1; have HB9 := Lib.hid hb9; clear hb9)
      · have R := (R9.set 0 (.slice none 0 0)).set 1 (.slice none 0 0)
        have q0 := R.cell 0
        have q1 := R.cell 1
        simp at q0 q1
        refine bodyPost_ret (v := .tuple #[.agg #[.slice none 0 0, .slice none 0 0], .bool false]) (by simp [results, Try.results38, go_sem, *]) rfl ?_
        exact RetN.noE (by rw [HO1.out]; exact HVZ.out) (((HBW.out.trans (HB9.out.mono HBW.out.size)).setCell (p := ⟨w.heap.size + 1, 0, none⟩) (by simp) (.slice none 0 0)).setCell (p := ⟨w.heap.size + 1, 1, none⟩) (by simp) (.slice none 0 0))
      · have R := (R9.set 0 (.slice (some ⟨bs, 0, none⟩) ps.length c1)).set 1 (.slice (some ⟨bf, 0, none⟩) fs.length c2)
        have q0 := R.cell 0
        have q1 := R.cell 1
        simp at q0 q1
        refine bodyPost_ret (v := .tuple #[.agg #[.slice (some ⟨bs, 0, none⟩) ps.length c1, .slice (some ⟨bf, 0, none⟩) fs.length c2], .bool true]) (by simp [results, Try.results38, go_sem, *]) rfl ?_
        have hez : ezO ps fs (can .f32 sh) = true := by rw [HO1.out]; exact HVZ.out
        have e1 : ezRP ps fs (can .f32 sh) = ezL ps fs (can .f32 sh) := by simp [ezRP, hez]
        have e2 : ezRF ps fs (can .f32 sh) = fs := by simp [ezRF, hez]
        rw [e1, e2, hez]
        have hfin : Far w6.heap.size w7.heap.size wr ((w9.setCell ⟨w.heap.size + 1, 0, none⟩ (.slice (some ⟨bs, 0, none⟩) ps.length c1)).setCell ⟨w.heap.size + 1, 1, none⟩ (.slice (some ⟨bf, 0, none⟩) fs.length c2)) := ((Far.below HB9.out (by omega)).set _ _ (by simp; omega)).set _ _ (by simp; omega)
        refine ⟨⟨some ⟨bs, 0, none⟩, some ⟨bf, 0, none⟩, c1, c2, by rw [ezL_len]; rfl, ?_⟩, ((HBW.out.trans (HB9.out.mono HBW.out.size)).setCell (by simp) _).setCell (by simp) _⟩
        have h8 := HB9.out.size
        have := HNW.out.far hfin
        simp only [World.size_setCell]
        exact this.wide (by omega) (by omega)
end Go.Proofs.Ytbmahankleijkaa

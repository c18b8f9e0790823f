/- Contract: AreaOfNet, the reference's. -/
import Derived.Test.YtbmahankleijkaaAreaD
import Derived.Test.YtbmahankleijkaaTrk
import Derived.Deep.Cut
import Derived.Deep.CutRange
namespace Go.Proofs.Ytbmahankleijkaa
open Go.RowKit Go.Fl

set_option maxHeartbeats 1000000 in
theorem l04LongS (x y z : Nat) (p : Sp) (hp : IsSp x y z p) (w : World) :
    Calls Try.prog 120 #[.agg #[.float .f32 x, .float .f32 y, .float .f32 z]] w fun e w' => (∃ r, e = .returned (.float .f32 r) ∧ F32 r (fsqrt (spDot p p))) ∧ Below w.heap.size w w' := by
  have HP := Lib.hid hp
  have HB : Hid (Below w.heap.size w (w.alloc (.cells #[.float .f32 x, .float .f32 y, .float .f32 z] 79))) := by
    show Below _ _ _
    (repeat (first | exact Below.refl _ _ | assumption | refine below_dr ?_ _ | refine Below.alloc ?_ (by first | omega | (simp; done) | (simp; omega)) _ | refine Below.setCell ?_ (by first | omega | (simp; done) | (simp; omega)) _ | refine Below.trans ?_ (Below.mono (by assumption) (by first | omega | (simp; done) | (simp; omega)))))
  clear hp
  go_enter Try.func120, Try.ntmps120
  go_wp2_with (first
    | (go_at_call 68; refine (dotS x y z x y z p p HP.out HP.out _).mono ?_; rintro e w3 ⟨⟨r, rfl, hr⟩, hb3⟩; have HR := Lib.hid hr; have HB3 := Lib.hid (HB.out.trans (hb3.mono (by simp))); clear hr hb3)
    | (go_at_call 131; refine (l01Sqrt r _).mono ?_; rintro e w4 ⟨⟨s, rfl, hs⟩, n, rfl⟩; have HS := Lib.hid hs; clear hs))
  go_ret
  refine ⟨⟨s, rfl, ?_⟩, below_dr HB3.out n⟩
  have h1 := HS.out
  rw [HR.out] at h1
  exact h1

/-- is the length told? -/
def loOk (p : Sp) : Bool := finSp p && fin (fsqrt (spDot p p))
set_option maxHeartbeats 1000000 in
set_option maxRecDepth 100000 in
theorem longS (x y z : Nat) (p : Sp) (hp : IsSp x y z p) (w : World) :
    Calls Try.prog 77 #[.agg #[.float .f32 x, .float .f32 y, .float .f32 z]] w fun e w' => (∃ r, e = .returned (.tuple #[.float .f32 r, .bool (loOk p)]) ∧ (loOk p = true → F32 r (fsqrt (spDot p p)))) ∧ Below w.heap.size w w' := by
  have HP := Lib.hid hp
  clear hp
  have HX := Lib.hid (OwnC.new (w := w) (cs := #[.float .f32 x, .float .f32 y, .float .f32 z]) (T := 79) rfl)
  have HB : Hid (Below w.heap.size w (w.alloc (.cells #[.float .f32 x, .float .f32 y, .float .f32 z] 79))) := by
    show Below _ _ _
    (repeat (first | exact Below.refl _ _ | assumption | refine below_dr ?_ _ | refine Below.alloc ?_ (by first | omega | (simp; done) | (simp; omega)) _ | refine Below.setCell ?_ (by first | omega | (simp; done) | (simp; omega)) _ | refine Below.trans ?_ (Below.mono (by assumption) (by first | omega | (simp; done) | (simp; omega)))))
  cases h1 : finSp p
  · have HF1 := Lib.hid h1
    have HE : Hid (loOk p = false) := Lib.hid (by simp [loOk, h1])
    clear h1
    go_enter Try.func77, Try.ntmps77
    go_wp2_with (go_at_call 112; (with_reducible refine (spotQ x y z p HP.out _).mono ?_); rintro e w3 ⟨rfl, hb3⟩; rw [HF1.out]; have HB3 := Lib.hid (HB.out.trans (hb3.mono (by simp))); clear hb3)
    go_ret2
    rw [HE.out]
    exact ⟨⟨0, rfl, fun h => by cases h⟩, HB3.out⟩
  · have HF1 := Lib.hid h1
    have HE : Hid (loOk p = fin (fsqrt (spDot p p))) := Lib.hid (by simp [loOk, h1])
    clear h1
    go_enter Try.func77, Try.ntmps77
    go_wp2_with (first
      | (go_at_call 112; (with_reducible refine (spotQ x y z p HP.out _).mono ?_); rintro e w3 ⟨rfl, hb3⟩; rw [HF1.out]; have HX3 := HX.out.below hb3 (by simp); have c0 := HX3.cell 0; have c1 := HX3.cell 1; have c2 := HX3.cell 2; simp at c0 c1 c2; have HB3 := Lib.hid (HB.out.trans (hb3.mono (by simp))); clear hb3 HX3)
      | (go_at_call 120; (with_reducible refine (l04LongS x y z p HP.out _).mono ?_); rintro e w4 ⟨⟨r, rfl, hr⟩, hb4⟩; have HR := Lib.hid hr; have HB4 := Lib.hid (HB3.out.trans (hb4.mono HB3.out.size)); clear hr hb4)
      | (go_at_call 69; (with_reducible refine (l02Number r _).mono ?_); rintro e w5 ⟨⟨v, rfl, hv⟩, n, rfl⟩; have HV := Lib.hid hv; clear hv))
    go_ret2
    have h1 := HR.out
    unfold F32 at h1
    have h2 := HV.out
    rw [h1] at h2 ⊢
    rw [HE.out]
    refine ⟨⟨v, rfl, fun h => ?_⟩, below_dr HB4.out n⟩
    unfold ifFin at h2
    rw [if_pos h] at h2
    exact h2

theorem triOk_eq (a b c : Sp) : triOk a b c = (crOk (spSub b a) (spSub c a) && loOk (triC a b c)) := by
  unfold triOk crOk loOk
  show _ = ((finSp (spSub b a) && finSp (spSub c a) && finSp (triC a b c)) && (finSp (triC a b c) && fin (triLong a b c)))
  cases finSp (triC a b c) <;> simp
set_option maxHeartbeats 4000000 in
set_option maxRecDepth 100000 in
theorem areaS (lo hi : Nat) (sa fa : Option Addr) (sc fc : Nat) (ps : List Sp) (fs : List (List Int)) (hp : ps.length ≤ 1048576) (hn : fs.length ≤ 1048576) (hsh : ∀ i, i < fs.length → (fAt fs i).length ≤ 1048576) (w : World)
    (hs : NetAt w lo hi sa fa ps fs) (hh : hi ≤ w.heap.size) :
    Calls Try.prog 36 #[netV sa fa ps.length sc fs.length fc] w (RetF (areaV ps fs) (areaO ps fs) w) := by
  have A0 : OwnC (w.alloc (.cells #[.slice sa ps.length sc, .slice fa fs.length fc] 33)) w.heap.size #[.slice sa ps.length sc, .slice fa fs.length fc] 33 := OwnC.new rfl
  have IS := Lib.hid (l06Is lo hi w.heap.size sa fa sc fc ps fs hp hn hsh (w.alloc (.cells #[.slice sa ps.length sc, .slice fa fs.length fc] 33)) (A0.cell 0) (A0.cell 1) (hs.far ((Far.refl _ _ _).alloc _ hh)) (by simp; omega))
  have HS := Lib.hid hs
  have HSH := Lib.hid hsh
  have HA0 := Lib.hid A0
  clear hs hsh A0
  unfold netV
  cases hv : okN ps fs
  · have HV : Hid (dec (OkNet ps fs (colA fs) (colB fs)) = false) := Lib.hid hv
    have HC := Lib.hid hv
    clear hv
    go_enter Try.func36, Try.ntmps36
    go_wp2_with (go_at_call 44; refine IS.out.mono ?_; rintro e w3 ⟨rfl, hb3⟩; rw [HV.out])
    go_ret2
    exact RetA.no HC.out (Below.trans (by (repeat (first | exact Below.refl _ _ | assumption | refine below_dr ?_ _ | refine Below.alloc ?_ (by first | omega | (simp; done) | (simp; omega)) _ | refine Below.setCell ?_ (by first | omega | (simp; done) | (simp; omega)) _ | refine Below.trans ?_ (Below.mono (by assumption) (by first | omega | (simp; done) | (simp; omega)))))) (hb3.mono (by simp)))
  have HV : Hid (dec (OkNet ps fs (colA fs) (colB fs)) = true) := Lib.hid hv
  have hok := okN_net hv
  have HIN : Hid (∀ i, i < fs.length → InN ps.length (fAt fs i)) := fun i h => (hok.facets i h).inN
  have H3 : Hid (∀ i, i < fs.length → 3 ≤ (fAt fs i).length) := fun i h => (hok.facets i h).1
  have HV1 : Hid (areaV ps fs = ifFin (triF areaG ps fs fs.length)) := Lib.hid (by simp [areaV, hv])
  have HV2 : Hid (areaO ps fs = fin (triF areaG ps fs fs.length)) := Lib.hid (by simp [areaO, hv])
  have HNO : Hid (allF triOk ps fs fs.length = false → ∀ w', Below w.heap.size w w' → RetF (areaV ps fs) (areaO ps fs) w (.returned (.tuple #[.float .f32 0, .bool false])) w') := Lib.hid (fun h w' hb => by
    have h1 : fin (triF areaG ps fs fs.length) = false := by rw [areaG_eq]; exact allF_nf (fun _ _ _ => triA_nf) _ h
    have h2 : areaV ps fs = 0 := by simp [areaV, hv, ifFin, h1]
    have h3 : areaO ps fs = false := by simp [areaO, h1]
    rw [h2, h3]
    exact ⟨⟨0, rfl, F32.zero⟩, hb⟩)
  clear hv hok
  go_enter Try.func36, Try.ntmps36
  go_wp2_with (go_at_call 44; refine IS.out.mono ?_; rintro e w3 ⟨rfl, hb3⟩; rw [HV.out]; have A1 := HA0.out.below hb3 (by first | omega | (simp; done) | (simp; omega)); have q0 := A1.cell 0; have q1 := A1.cell 1; simp at q0 q1)
  have z3 := hb3.size
  simp at z3
  have HA4 := Lib.hid A1
  have HB4 : Hid (Below w.heap.size w w3) := Below.trans (by (repeat (first | exact Below.refl _ _ | assumption | refine below_dr ?_ _ | refine Below.alloc ?_ (by first | omega | (simp; done) | (simp; omega)) _ | refine Below.setCell ?_ (by first | omega | (simp; done) | (simp; omega)) _ | refine Below.trans ?_ (Below.mono (by assumption) (by first | omega | (simp; done) | (simp; omega)))))) (hb3.mono (by simp))
  clear hb3 A1 q0 q1
  go_loopw [4, 5] (fun su i wr => ∃ (j s : Nat), j ≤ fs.length ∧ i = .int .i64 j ∧ su = .float .f32 s ∧ Hid (F32 s (triF areaG ps fs j)) ∧ Hid (allF triOk ps fs j = true) ∧ Hid (Below w.heap.size w wr) ∧ Hid (OwnC wr w.heap.size #[.slice sa ps.length sc, .slice fa fs.length fc] 33)) (fun _ i _ => fs.length - (intOf i).toNat)
  case atStart => exact ⟨0, 0, by omega, rfl, rfl, Lib.hid F32.zero, Lib.hid rfl, HB4, HA4⟩
  case round =>
    clear HB4 HA4
    obtain ⟨j, s, hj, rfl, rfl, HSU, HAL, HW, HA⟩ := hrel
    have n1 := HA.out.cell 1
    simp at n1
    by_cases hlt : j < fs.length
    · obtain ⟨bf, of', rfl, f1, f2, hc⟩ := HS.out.facets (by omega)
      obtain ⟨ai, ci, hc1, hs1⟩ := hc j hlt
      have e1 := keep_cell HW.out hc1
      have HS1 := Lib.hid hs1
      have hlk := HSH.out j hlt
      have hl3 := H3.out j hlt
      have k0 : (0 : Int) ≤ (j : Int) := by omega
      have k1 : (j : Int) < (fs.length : Int) := by omega
      have hsi := hs1.far (Far.below HW.out hh)
      obtain ⟨b3, o3, rfl, f3, f4, hc3⟩ := hsi (by omega)
      have hsp := HS.out.spots.far (Far.below HW.out hh)
      obtain ⟨v0, sb, so, x, y, z, hv0, hl0, hsa, l1, l2, a1, a2, a3, q0⟩ := cornAt hsp (HIN.out j hlt) (k := 0) (by omega)
      subst hsa
      have e0 := hc3 0 (by omega)
      rw [hv0, Nat.add_zero] at e0
      have Q0 := Lib.hid q0
      have m3 : ¬ fAt fs j = [] := fun h => by rw [h] at hl3; simp at hl3
      have m5 : 0 < (fAt fs j).length := by omega
      have t8 : (0 : Int) < ((fAt fs j).length : Int) := by omega
      have i0 : (0 : Int) ≤ (v0 : Int) := by omega
      have i1 : (v0 : Int) < (ps.length : Int) := by omega
      have n0 := HA.out.cell 0
      simp at n0
      have hla := HA.out.lt
      have hz := HW.out.size
      clear hc hc1 hs1 hsi hsp hc3 q0 hv0
      go_wp2_with fail
      have TT0 := Trk.start #[.float .f32 0, .float .f32 0, .float .f32 0] 79 wr
      go_region_held (fun w' => w'.cell? ⟨w.heap.size, 0, none⟩ = some (.slice (some ⟨sb, so, none⟩) ps.length sc) ∧ w'.cell? ⟨b3, o3, none⟩ = some (.int .i64 v0) ∧ w'.cell? ⟨sb, so + v0 * 3, none⟩ = some (.float .f32 x) ∧ w'.cell? ⟨sb, so + v0 * 3 + 1, none⟩ = some (.float .f32 y) ∧ w'.cell? ⟨sb, so + v0 * 3 + 2, none⟩ = some (.float .f32 z))
        (refine ⟨?_, ?_, ?_, ?_, ?_⟩ <;> first | (with_reducible assumption) | ((with_reducible refine Trk.k0 ?_) <;> with_reducible assumption) | ((with_reducible refine Trk.k2d _ ?_) <;> with_reducible assumption) | ((with_reducible refine Trk.k2 TT0 _ ?_) <;> with_reducible assumption)) (fail)
      have hM : Made wr 79 wr.heap.size #[.float .f32 x, .float .f32 y, .float .f32 z] (wr.alloc (.cells #[.float .f32 x, .float .f32 y, .float .f32 z] 79)).drew := Trk.madeAd (Trk.here #[.float .f32 0, .float .f32 0, .float .f32 0] _ wr) _
      have HB5 : Hid (Below w.heap.size w (wr.alloc (.cells #[.float .f32 x, .float .f32 y, .float .f32 z] 79)).drew) := Lib.hid (Below.trans HW.out (hM.1.mono hz))
      have HA5 := Lib.hid (HA.out.below hM.1 hla)
      have HO5 := Lib.hid hM.2.1
      clear hM TT0 e0 n0 a1 a2 a3 e1 n1
      generalize (wr.alloc (.cells #[.float .f32 x, .float .f32 y, .float .f32 z] 79)).drew = w5 at *
      generalize wr.heap.size = ab at *
      go_wp2_with fail
      go_loopw [4, 8] (fun su i wq => ∃ (k s : Nat), k + 2 ≤ (fAt fs j).length ∧ i = .int .i64 ((k : Int) + 1) ∧ su = .float .f32 s ∧ Hid (F32 s (triJ areaG ps (fAt fs j) (triF areaG ps fs j) k)) ∧ Hid (allJ triOk ps (fAt fs j) (allF triOk ps fs j) k = true) ∧ Hid (Below w.heap.size w wq) ∧ Hid (OwnC wq w.heap.size #[.slice (some ⟨sb, so, none⟩) ps.length sc, .slice (some ⟨bf, of', none⟩) fs.length fc] 33) ∧ Hid (OwnC wq ab #[.float .f32 x, .float .f32 y, .float .f32 z] 79)) (fun _ i _ => (fAt fs j).length - (intOf i).toNat)
      case atStart => exact ⟨0, s, by omega, by simp, rfl, HSU, HAL, HB5, HA5, HO5⟩
      case round =>
        clear HB5 HA5 HO5 HW HA HSU
        obtain ⟨k, s, hk, rfl, rfl, HSU, HAJ, HW, HA, HO⟩ := hrel
        have n0 := HA.out.cell 0
        simp at n0
        have t2 : IntKind.i64.wrap ((k : Int) + 1 + 1) = (k : Int) + 1 + 1 := by rw [IntKind.wrap_i64]; omega
        by_cases hlt2 : k + 2 < (fAt fs j).length
        · have hsi := HS1.out.far (Far.below HW.out hh)
          obtain ⟨b3', o3', e3, _, _, hc3⟩ := hsi (by omega)
          cases e3
          have hsp := HS.out.spots.far (Far.below HW.out hh)
          obtain ⟨v1, sb1, so1, x', y', z', hv1, hl1, hsb1, _, _, b1, b2, b3', q1⟩ := cornAt hsp (HIN.out j hlt) (k := k + 1) (by omega)
          cases hsb1
          obtain ⟨v2, sb2, so2, x2, y2, z2, hv2, hl2, hsb2, _, _, c1, c2, c3, q2⟩ := cornAt hsp (HIN.out j hlt) (k := k + 2) (by omega)
          cases hsb2
          have e1 := hc3 (k + 1) (by omega)
          have e2 := hc3 (k + 2) (by omega)
          rw [hv1] at e1
          rw [hv2] at e2
          have t0 : (0 : Int) ≤ (k : Int) + 1 := by omega
          have t1 : (k : Int) + 1 < ((fAt fs j).length : Int) := by omega
          have t4 : (0 : Int) ≤ (k : Int) + 1 + 1 := by omega
          have t5 : (k : Int) + 1 + 1 < ((fAt fs j).length : Int) := by omega
          have t6 : ((k : Int) + 1).toNat = k + 1 := by omega
          have t7 : ((k : Int) + 1 + 1).toNat = k + 2 := by omega
          have i2 : (0 : Int) ≤ (v1 : Int) := by omega
          have i3 : (v1 : Int) < (ps.length : Int) := by omega
          have i4 : (0 : Int) ≤ (v2 : Int) := by omega
          have i5 : (v2 : Int) < (ps.length : Int) := by omega
          have Q1 := Lib.hid q1
          have Q2 := Lib.hid q2
          have d0 := HO.out.cell 0
          have d1 := HO.out.cell 1
          have d2 := HO.out.cell 2
          simp at d0 d1 d2
          have hla2 := HA.out.lt
          have hlo2 := HO.out.lt
          have hz2 := HW.out.size
          have HT0 := Lib.hid (Trk.start #[.float .f32 0, .float .f32 0, .float .f32 0] 79 wr)
          have HTA := Lib.hid (Trk.startA #[.float .f32 0, .float .f32 0, .float .f32 0] 79 wr)
          clear hc3 hsi hsp q1 q2 hv1 hv2
          go_wp2_with fail
          go_cut [9, 10] from 35 to 81 (fun u9 u10 wx => ∃ cb a b c, u9 = .pointer (some ⟨cb, 0, none⟩) ∧ u10 = .bool (crOk (spSub (cornP ps (fAt fs j) (k + 1)) (cornP ps (fAt fs j) 0)) (spSub (cornP ps (fAt fs j) (k + 2)) (cornP ps (fAt fs j) 0))) ∧ Hid (Made wr 79 cb #[.float .f32 a, .float .f32 b, .float .f32 c] wx) ∧ Hid (crOk (spSub (cornP ps (fAt fs j) (k + 1)) (cornP ps (fAt fs j) 0)) (spSub (cornP ps (fAt fs j) (k + 2)) (cornP ps (fAt fs j) 0)) = true → IsSp a b c (triC (cornP ps (fAt fs j) 0) (cornP ps (fAt fs j) (k + 1)) (cornP ps (fAt fs j) (k + 2)))))
          case first =>
            have T0 := HT0.out
            have TA := HTA.out
            go_region_held (fun w' => w'.cell? ⟨w.heap.size, 0, none⟩ = some (.slice (some ⟨sb, so, none⟩) ps.length sc) ∧
              w'.cell? ⟨b3, o3 + (k + 1), none⟩ = some (.int .i64 v1) ∧
              w'.cell? ⟨b3, o3 + (k + 2), none⟩ = some (.int .i64 v2) ∧
              w'.cell? ⟨sb, so + v1 * 3, none⟩ = some (.float .f32 x') ∧
              w'.cell? ⟨sb, so + v1 * 3 + 1, none⟩ = some (.float .f32 y') ∧
              w'.cell? ⟨sb, so + v1 * 3 + 2, none⟩ = some (.float .f32 z') ∧
              w'.cell? ⟨sb, so + v2 * 3, none⟩ = some (.float .f32 x2) ∧
              w'.cell? ⟨sb, so + v2 * 3 + 1, none⟩ = some (.float .f32 y2) ∧
              w'.cell? ⟨sb, so + v2 * 3 + 2, none⟩ = some (.float .f32 z2) ∧
              w'.cell? ⟨ab, 0, none⟩ = some (.float .f32 x) ∧
              w'.cell? ⟨ab, 1, none⟩ = some (.float .f32 y) ∧
              w'.cell? ⟨ab, 2, none⟩ = some (.float .f32 z))
              (refine ⟨?_, ?_, ?_, ?_, ?_, ?_, ?_, ?_, ?_, ?_, ?_, ?_⟩ <;> first | (with_reducible assumption) | ((with_reducible refine Trk.k0 ?_) <;> with_reducible assumption) | ((with_reducible refine Trk.k2d _ ?_) <;> with_reducible assumption) | ((with_reducible refine Trk.k1 T3 ?_) <;> with_reducible assumption) | ((with_reducible refine Trk.k2 T3 _ ?_) <;> with_reducible assumption) | ((with_reducible refine Trk.k3 T3 _ _ _ ?_) <;> with_reducible assumption) | ((with_reducible refine Trk.k1 T2 ?_) <;> with_reducible assumption) | ((with_reducible refine Trk.k2 T2 _ ?_) <;> with_reducible assumption) | ((with_reducible refine Trk.k3 T2 _ _ _ ?_) <;> with_reducible assumption) | ((with_reducible refine Trk.k1 T1 ?_) <;> with_reducible assumption) | ((with_reducible refine Trk.k2 T1 _ ?_) <;> with_reducible assumption) | ((with_reducible refine Trk.k3 T1 _ _ _ ?_) <;> with_reducible assumption))
              ((first
              | (go_at_call 76; (with_reducible refine (lessS x' y' z' x y z _ _ Q1.out Q0.out _).mono ?_); rintro e w3 ⟨⟨a1, b1, c1, rfl, h1⟩, hb3⟩; have H1 := Lib.hid h1; have T1 := Trk.call (by first | with_reducible exact T2 | with_reducible exact Trk.alloc T2 | with_reducible exact T0 | with_reducible exact TA) hb3; clear h1 hb3)
              | (go_at_call 76; (with_reducible refine (lessS x2 y2 z2 x y z _ _ Q2.out Q0.out _).mono ?_); rintro e w4 ⟨⟨a2, b2, c2, rfl, h2⟩, hb4⟩; have H2 := Lib.hid h2; have T2 := Trk.call (by first | with_reducible exact T1 | with_reducible exact Trk.alloc T1 | with_reducible exact T0 | with_reducible exact TA) hb4; clear h2 hb4)
              | (go_at_call 67; (with_reducible refine (crossSpots a1 b1 c1 a2 b2 c2 _ _ H1.out H2.out _).mono ?_); rintro e w5 ⟨⟨a, b, c, rfl, hab⟩, hb5⟩; have HAB := Lib.hid hab; have T3 := Trk.call (by first | with_reducible exact T2 | with_reducible exact Trk.alloc T2 | with_reducible exact T1 | with_reducible exact Trk.alloc T1 | with_reducible exact T0 | with_reducible exact TA) hb5; (try (have d0 := T3.at 0; have d1 := T3.at 1; have d2 := T3.at 2; simp at d0 d1 d2; have g0 := T3.free 0; have g1 := T3.free 1; have g2 := T3.free 2)); clear hab hb5)))
            all_goals (try go_wp2_with fail)
            all_goals go_meet
            all_goals exact ⟨_, a, b, c, rfl, rfl, Lib.hid (by first | with_reducible exact T3.madeA _ | with_reducible exact T3.made rfl _ _ _), HAB⟩
          case rest =>
            obtain ⟨cb, a, b, c, rfl, rfl, HMD, HCR⟩ := hcut
            have x0 := HMD.out.2.1.cell 0
            have x1 := HMD.out.2.1.cell 1
            have x2 := HMD.out.2.1.cell 2
            simp at x0 x1 x2
            have HB5 := Lib.hid (HW.out.trans (HMD.out.1.mono hz2))
            have HA5 := Lib.hid (HA.out.below HMD.out.1 hla2)
            have HO5 := Lib.hid (HO.out.below HMD.out.1 hlo2)
            have HNX : Hid (triOk (cornP ps (fAt fs j) 0) (cornP ps (fAt fs j) (k + 1)) (cornP ps (fAt fs j) (k + 2)) = false → ∀ w', Below w.heap.size w w' → RetF (areaV ps fs) (areaO ps fs) w (.returned (.tuple #[.float .f32 0, .bool false])) w') := Lib.hid (fun h w' hb =>
              HNO.out (allF_no hlt (show k + 1 ≤ (fAt fs j).length - 2 by omega) (by rw [allJ, h, Bool.and_false])) w' hb)
            clear n0 d0 d1 d2 e1 e2 b1 b2 b3' c1 c2 c3 HT0 HTA
            cases hcr : crOk (spSub (cornP ps (fAt fs j) (k + 1)) (cornP ps (fAt fs j) 0)) (spSub (cornP ps (fAt fs j) (k + 2)) (cornP ps (fAt fs j) 0))
            · have HCF := Lib.hid hcr
              obtain ⟨pp, HPP⟩ : ∃ pp, Hid (IsSp a b c pp) := ⟨_, Lib.hid rfl⟩
              clear hcr
              go_wp2_with (go_at_call 77; (with_reducible refine (longS a b c _ HPP.out _).mono ?_); rintro e w6 ⟨⟨r, rfl, hr⟩, hb6⟩; have HR := Lib.hid hr; have HB6 := Lib.hid (HB5.out.trans (hb6.mono HB5.out.size)); have HA6 := Lib.hid (HA5.out.below hb6 HA5.out.lt); have HO6 := Lib.hid (HO5.out.below hb6 HO5.out.lt); clear hr hb6)
              go_ret2
              exact HNX.out (by rw [triOk_eq, HCF.out]; rfl) _ HB6.out
            · have HCF := Lib.hid hcr
              have HPP := Lib.hid (HCR.out hcr)
              clear hcr
              cases hlo : loOk (triC (cornP ps (fAt fs j) 0) (cornP ps (fAt fs j) (k + 1)) (cornP ps (fAt fs j) (k + 2)))
              · have HLO := Lib.hid hlo
                clear hlo
                go_wp2_with (go_at_call 77; (with_reducible refine (longS a b c _ HPP.out _).mono ?_); rintro e w6 ⟨⟨r, rfl, hr⟩, hb6⟩; rw [HLO.out]; have HR := Lib.hid hr; have HB6 := Lib.hid (HB5.out.trans (hb6.mono HB5.out.size)); have HA6 := Lib.hid (HA5.out.below hb6 HA5.out.lt); have HO6 := Lib.hid (HO5.out.below hb6 HO5.out.lt); clear hr hb6)
                go_ret2
                exact HNX.out (by rw [triOk_eq, HLO.out, Bool.and_false]) _ HB6.out
              · have HLO := Lib.hid hlo
                clear hlo
                go_wp2_with (first | (go_at_call 77; (with_reducible refine (longS a b c _ HPP.out _).mono ?_); rintro e w6 ⟨⟨r, rfl, hr⟩, hb6⟩; rw [HLO.out]; have HR := Lib.hid hr; have HB6 := Lib.hid (HB5.out.trans (hb6.mono HB5.out.size)); have HA6 := Lib.hid (HA5.out.below hb6 HA5.out.lt); have HO6 := Lib.hid (HO5.out.below hb6 HO5.out.lt); clear hr hb6) | (refine wpList_f rfl rfl rfl rfl (by decide) ?_; intro _ _ _; simp only [Act.put, List.setIfInBounds_toArray, List.set_cons_succ, List.set_cons_zero]))
                rename_i q1 m1 h1 q2 m2 h2
                have hr := HR.out HLO.out
                have hs := HSU.out
                unfold F32 at hr hs h1
                have hq : F32 q2 (triJ areaG ps (fAt fs j) (triF areaG ps fs j) (k + 1)) := by
                  unfold F32 at h2 ⊢
                  rw [h2, h1, hr, hs, can_of_not (show nanB .f32 1056964608 = false by decide +kernel), triJ, triG, areaG_eq]
                  rfl
                have HQ := Lib.hid hq
                clear h1 h2 hr hs hq
                go_roundw
                case rel => exact ⟨k + 1, q2, by omega, by go_num, rfl, HQ, Lib.hid (by rw [allJ, HAJ.out, triOk_eq, HCF.out, HLO.out]; rfl), Lib.hid (below_dr HB6.out _), Lib.hid (HA6.out.drewN _), Lib.hid (HO6.out.drewN _)⟩
                case measure => simp [intOf]; omega
        · have t9 : ¬ ((k : Int) + 1 + 1 < ((fAt fs j).length : Int)) := by omega
          have hkm : k = (fAt fs j).length - 2 := by omega
          have HSU4 : Hid (F32 s (triF areaG ps fs (j + 1))) := Lib.hid (by show F32 s (triJ areaG ps (fAt fs j) (triF areaG ps fs j) ((fAt fs j).length - 2)); rw [← hkm]; exact HSU.out)
          have HAL4 : Hid (allF triOk ps fs (j + 1) = true) := Lib.hid (by show allJ triOk ps (fAt fs j) (allF triOk ps fs j) ((fAt fs j).length - 2) = true; rw [← hkm]; exact HAJ.out)
          go_wp2_with fail
          go_roundw
          case rel => exact ⟨j + 1, s, by omega, by go_num, rfl, HSU4, HAL4, HW, HA⟩
          case measure => simp [intOf]; omega
    · have hjn : j = fs.length := by omega
      subst hjn
      go_wp2_with fail
      refine (l02Number s _).mono ?_
      rintro e w5 ⟨⟨v, rfl, hv⟩, n', rfl⟩
      have h1 := HSU.out
      unfold F32 at h1
      rw [h1] at hv
      rw [h1]
      have HV := Lib.hid hv
      clear hv h1
      go_wp2_with fail
      go_ret2
      rw [HV1.out, HV2.out]
      exact ⟨⟨v, rfl, HV.out⟩, by have := HW.out; (repeat (first | exact Below.refl _ _ | assumption | refine below_dr ?_ _ | refine Below.alloc ?_ (by first | omega | (simp; done) | (simp; omega)) _ | refine Below.setCell ?_ (by first | omega | (simp; done) | (simp; omega)) _ | refine Below.trans ?_ (Below.mono (by assumption) (by first | omega | (simp; done) | (simp; omega)))))⟩
end Go.Proofs.Ytbmahankleijkaa

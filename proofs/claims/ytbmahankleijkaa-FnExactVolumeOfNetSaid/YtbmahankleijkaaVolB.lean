/- Contract: VolumeOfNet, the program's. -/
import Derived.Test.YtbmahankleijkaaVolD
namespace Go.Proofs.Ytbmahankleijkaa
open Go.RowKit Go.Fl
/-- what the closure of the volume keeps: its flag in block fb -/
structure VolJ (fb : Nat) (ps : List Sp) (fs : List (List Int)) (j k : Nat) (P : Nat → Prop) (w : World) : Prop where
  foot : ∀ b, P b ↔ b = fb
  flag : OwnC w fb #[.bool (allJ volT ps (fAt fs j) (allF volT ps fs j) k)] 4
theorem VolJ.keeps (fb : Nat) (ps : List Sp) (fs : List (List Int)) : Keeps2 (VolJ fb ps fs) where
  stable := fun {j k P w w'} h hb _ => ⟨h.foot, (hb fb ((h.foot fb).2 rfl)).trans h.flag⟩
  low := fun {j k P w} h b hb => by
    rw [(h.foot b).1 hb]; exact h.flag.lt

set_option maxHeartbeats 4000000 in
set_option maxRecDepth 100000 in
theorem volB (lo hi : Nat) (sa fa : Option Addr) (sc fc : Nat) (ps : List Sp) (fs : List (List Int)) (hp : ps.length ≤ 1048576) (hn : fs.length ≤ 1048576) (hsh : ∀ i, i < fs.length → (fAt fs i).length ≤ 1048576) (w : World)
    (hs : NetAt w lo hi sa fa ps fs) (hca : SlC w lo hi fa fs) (hh : hi ≤ w.heap.size) :
    Calls Try.prog 34 #[netV sa fa ps.length sc fs.length fc] w (RetF (volV ps fs) (volO ps fs) w) := by
  have A0 : OwnC (w.alloc (.cells #[.slice sa ps.length sc, .slice fa fs.length fc] 33)) w.heap.size #[.slice sa ps.length sc, .slice fa fs.length fc] 33 := OwnC.new rfl
  have IS := Lib.hid (bordersOfB lo hi sa fa sc fc ps fs hp hn hsh (w.alloc (.cells #[.slice sa ps.length sc, .slice fa fs.length fc] 33)) (hs.far ((Far.refl _ _ _).alloc _ hh)) (hca.far ((Far.refl _ _ _).alloc _ hh)) (by simp; omega))
  have HS := Lib.hid hs
  have HSH := Lib.hid hsh
  have HA0 := Lib.hid A0
  clear hs hsh A0 hca
  unfold netV at *
  cases hv : okN ps fs
  · rw [hv] at IS
    have HC : Hid (volC ps fs = false) := Lib.hid (by simp [volC, hv])
    clear hv
    go_enter Try.func34, Try.ntmps34
    go_wp2_with (go_at_call 24; refine IS.out.mono ?_; rintro e w3 ⟨⟨ao, c, rfl, hO⟩, hb3⟩)
    go_ret2
    exact RetF.no HC.out (Below.trans (by (repeat (first | exact Below.refl _ _ | assumption | refine below_dr ?_ _ | refine Below.alloc ?_ (by first | omega | (simp; done) | (simp; omega)) _ | refine Below.setCell ?_ (by first | omega | (simp; done) | (simp; omega)) _ | refine Below.trans ?_ (Below.mono (by assumption) (by first | omega | (simp; done) | (simp; omega)))))) (hb3.mono (by simp)))
  have hok := okN_net hv
  have HIN : Hid (∀ i, i < fs.length → InN ps.length (fAt fs i)) := fun i h => (hok.facets i h).inN
  have H3 : Hid (∀ i, i < fs.length → 3 ≤ (fAt fs i).length) := fun i h => (hok.facets i h).1
  have hpx : prX true ps fs = prL true fs := prX_yes hv
  rw [hv, hpx] at IS
  by_cases hpr : (prL true fs).length = 0
  rotate_left
  · have HC : Hid (volC ps fs = false) := Lib.hid (by simp [volC, hpr])
    have hpr0 : 0 < (prL true fs).length := by omega
    have hpr1 : (0 : Int) < ((prL true fs).length : Int) := by omega
    clear hv hok hpx
    go_enter Try.func34, Try.ntmps34
    go_wp2_with (go_at_call 24; refine IS.out.mono ?_; rintro e w3 ⟨⟨ao, c, rfl, hO⟩, hb3⟩)
    go_ret2
    exact RetF.no HC.out (Below.trans (by (repeat (first | exact Below.refl _ _ | assumption | refine below_dr ?_ _ | refine Below.alloc ?_ (by first | omega | (simp; done) | (simp; omega)) _ | refine Below.setCell ?_ (by first | omega | (simp; done) | (simp; omega)) _ | refine Below.trans ?_ (Below.mono (by assumption) (by first | omega | (simp; done) | (simp; omega)))))) (hb3.mono (by simp)))
  have HVC : Hid (volC ps fs = allF volT ps fs fs.length) := Lib.hid (by simp [volC, hv, hpr])
  have HPR := Lib.hid hpr
  clear hv hok hpx hpr
  go_enter Try.func34, Try.ntmps34
  go_wp2_with (go_at_call 24; refine IS.out.mono ?_; rintro e w3 ⟨⟨ao, c, rfl, hO⟩, hb3⟩; rw [HPR.out]; have A3 := (HA0.out.below hb3 (by first | omega | (simp; done) | (simp; omega))).alloc (.cells #[.bool true] 4); have q0 := A3.cell 0; have q1 := A3.cell 1; simp at q0 q1)
  have z3 := hb3.size
  simp at z3
  have HB3 : Hid (Below w.heap.size w (w3.alloc (.cells #[.bool true] 4))) := (Below.trans (by (repeat (first | exact Below.refl _ _ | assumption | refine below_dr ?_ _ | refine Below.alloc ?_ (by first | omega | (simp; done) | (simp; omega)) _ | refine Below.setCell ?_ (by first | omega | (simp; done) | (simp; omega)) _ | refine Below.trans ?_ (Below.mono (by assumption) (by first | omega | (simp; done) | (simp; omega)))))) (hb3.mono (by simp))).alloc (by omega) _
  have HJ3 : Hid (VolJ w3.heap.size ps fs 0 0 (fun b => b = w3.heap.size) (w3.alloc (.cells #[.bool true] 4))) := ⟨fun _ => Iff.rfl, OwnC.new rfl⟩
  have HST : Hid (∀ j k P w1 x y z x' y' z' x2 y2 z2, j < fs.length → k + 2 < (fAt fs j).length → VolJ w3.heap.size ps fs j k P w1 → IsSp x y z (cornP ps (fAt fs j) 0) → IsSp x' y' z' (cornP ps (fAt fs j) (k + 1)) → IsSp x2 y2 z2 (cornP ps (fAt fs j) (k + 2)) →
      Calls Try.prog 71 (#[.agg #[.float .f32 x, .float .f32 y, .float .f32 z], .agg #[.float .f32 x', .float .f32 y', .float .f32 z'], .agg #[.float .f32 x2, .float .f32 y2, .float .f32 z2]] ++ #[.pointer (some ⟨w3.heap.size, 0, none⟩)]) w1 fun e w' => (∃ r, e = .returned (.float .f32 r) ∧ F32 r (triG volG ps (fAt fs j) k)) ∧ ∃ P', VolJ w3.heap.size ps fs j (k + 1) P' w' ∧ Ch P w1 w' ∧ ∀ b, P' b → P b ∨ w1.heap.size ≤ b) :=
    fun j k P w1 x y z x' y' z' x2 y2 z2 h1 h2 hJ q0 q1 q2 => by
      refine (vol1 w3.heap.size _ x y z x' y' z' x2 y2 z2 _ _ _ q0 q1 q2 w1 hJ.flag).mono ?_
      rintro e w' ⟨hr, hf, hc⟩
      exact ⟨hr, P, ⟨hJ.foot, hf⟩, hc.mono fun b hb => (hJ.foot b).2 hb, fun b hb => .inl hb⟩
  have HSF := Lib.hid (HS.out.far (Far.below HB3.out hh))
  have hP : ∀ b, b = w3.heap.size → b < lo ∨ hi ≤ b := fun b hb => by omega
  have HPP := Lib.hid hP
  clear hP A3 hb3 hO
  refine (overTri volG _ (VolJ.keeps w3.heap.size ps fs) 71 _ (fun _ _ => rfl) lo hi sa fa sc fc ps fs hp hn HSH.out H3.out HIN.out _ (fun j P w1 _ h => ⟨h.foot, h.flag⟩) HST.out HSF.out (by simp; omega) _ HJ3.out HPP.out).mono ?_
  rintro e w4 ⟨⟨r, rfl, hr⟩, P, hwk⟩
  have hfl0 := hwk.inv.flag.cell 0
  simp at hfl0
  have HB4 : Hid (Below w.heap.size w w4) := HB3.out.trans (hwk.ch.toBelow (by simp; omega) (fun b hb => by omega))
  have HR := Lib.hid hr
  have hfl : w4.cell? ⟨w3.heap.size, 0, none⟩ = some (.bool (volC ps fs)) := by rw [HVC.out]; exact hfl0
  clear hfl0 hwk q0 q1 HB3 HST HJ3 hr
  cases hc : volC ps fs
  · rw [hc] at hfl
    have HC := Lib.hid hc
    clear hc
    go_wp2_with fail
    go_ret2
    exact RetF.no HC.out HB4.out
  · rw [hc] at hfl
    have HV1 : Hid (volV ps fs = ifFin (fdiv (triF volG ps fs fs.length) 1086324736)) := Lib.hid (by simp [volV, hc])
    have HV2 : Hid (volO ps fs = fin (fdiv (triF volG ps fs fs.length) 1086324736)) := Lib.hid (by simp [volO, hc])
    clear hc
    go_wp2_with (first | (refine wpList_f rfl rfl rfl rfl (by decide) ?_; intro _ _ _; simp only [Act.put, List.setIfInBounds_toArray, List.set_cons_succ, List.set_cons_zero]))
    rename_i q m hq k1 k2
    have HQ : can .f32 q = fdiv (triF volG ps fs fs.length) 1086324736 := by
      have h1 := HR.out
      unfold F32 at hq h1
      rw [hq, h1, can_of_not (show nanB .f32 1086324736 = false by decide +kernel)]; rfl
    refine (ifNumber q _).mono ?_
    rintro e w5 ⟨⟨v, rfl, hv⟩, n', rfl⟩
    rw [HQ] at hv
    rw [HQ]
    have HV := Lib.hid hv
    clear hv hq
    go_wp2_with fail
    go_ret2
    rw [HV1.out, HV2.out]
    exact ⟨⟨v, rfl, HV.out⟩, by have := HB4.out; (repeat (first | exact Below.refl _ _ | assumption | refine below_dr ?_ _ | refine Below.alloc ?_ (by first | omega | (simp; done) | (simp; omega)) _ | refine Below.setCell ?_ (by first | omega | (simp; done) | (simp; omega)) _ | refine Below.trans ?_ (Below.mono (by assumption) (by first | omega | (simp; done) | (simp; omega)))))⟩
end Go.Proofs.Ytbmahankleijkaa

/- What VolumeOfNet answers, as a plain function. What AreaOfNet answers, as a plain function. Contract: AreaOfNet, the program's. -/
import Derived.Test.YtkjljajjjhfklaaNj20
import Derived.Test.YtkjljajjjhfklaaNj12
namespace Go.Fl
/-- the call from w answers with the number v and with ok -/
def RetF (v : Nat) (ok : Bool) (w : World) (e : Ending) (w' : World) : Prop :=
  (∃ r, e = .returned (.tuple #[.float .f32 r, .bool ok]) ∧ F32 r v) ∧ RowKit.Below w.heap.size w w'
def volG (a b c : Sp) : Nat := spDot a (spCross b c)
def volT (_ b c : Sp) : Bool := finSp (spCross b c)
end Go.Fl
namespace Go.Proofs.Ytkjljajjjhfklaa
open Go.RowKit Go.Fl
noncomputable def volC (ps : List Sp) (fs : List (List Int)) : Bool := okN ps fs && decide ((prL true fs).length = 0) && allF volT ps fs fs.length
noncomputable def volV (ps : List Sp) (fs : List (List Int)) : Nat := if volC ps fs then ifFin (fdiv (triF volG ps fs fs.length) 1086324736) else 0
noncomputable def volO (ps : List Sp) (fs : List (List Int)) : Bool := volC ps fs && fin (fdiv (triF volG ps fs fs.length) 1086324736)
theorem RetF.no {ps : List Sp} {fs : List (List Int)} {w w' : World} (h : volC ps fs = false) (hb : Below w.heap.size w w') : RetF (volV ps fs) (volO ps fs) w (.returned (.tuple #[.float .f32 0, .bool false])) w' := by
  have h1 : volV ps fs = 0 := by simp [volV, h]
  have h2 : volO ps fs = false := by simp [volO, h]
  rw [h1, h2]
  exact ⟨⟨0, rfl, F32.zero⟩, hb⟩
theorem cornFin {ps : List Sp} {f : List Int} (h : ps.all finSp = true) (hin : InN ps.length f) {k : Nat} (hk : k < f.length) : finSp (cornP ps f k) = true := by
  obtain ⟨i0, i1⟩ := hin k hk
  unfold cornP
  have : (iAt f k).toNat < ps.length := by omega
  have hm : pAt ps (iAt f k).toNat ∈ ps := by
    unfold pAt; rw [List.getD_eq_getElem?_getD, List.getElem?_eq_getElem this]; exact List.getElem_mem this
  exact List.all_eq_true.1 h _ hm

end Go.Proofs.Ytkjljajjjhfklaa

namespace Go.Fl
/-- the program's share of a triangle -/
def areaG (a b c : Sp) : Nat := fdiv (triLong a b c) 1073741824
theorem areaG_eq : areaG = triA := by funext a b c; exact triA_half a b c
end Go.Fl
namespace Go.Proofs.Ytkjljajjjhfklaa
open Go.RowKit Go.Fl
noncomputable def areaV (ps : List Sp) (fs : List (List Int)) : Nat := if okN ps fs then ifFin (triF areaG ps fs fs.length) else 0
noncomputable def areaO (ps : List Sp) (fs : List (List Int)) : Bool := okN ps fs && fin (triF areaG ps fs fs.length)
theorem RetA.no {ps : List Sp} {fs : List (List Int)} {w w' : World} (h : okN ps fs = false) (hb : Below w.heap.size w w') : RetF (areaV ps fs) (areaO ps fs) w (.returned (.tuple #[.float .f32 0, .bool false])) w' := by
  have h1 : areaV ps fs = 0 := by simp [areaV, h]
  have h2 : areaO ps fs = false := by simp [areaO, h]
  rw [h1, h2]
  exact ⟨⟨0, rfl, F32.zero⟩, hb⟩
end Go.Proofs.Ytkjljajjjhfklaa

namespace Go.Proofs.Ytkjljajjjhfklaa
open Go.RowKit Go.Fl

set_option maxHeartbeats 1000000 in
theorem longB (x y z : Nat) (p : Sp) (hp : IsSp x y z p) (w : World) :
    Calls Try.prog 46 #[.agg #[.float .f32 x, .float .f32 y, .float .f32 z]] w fun e w' => (∃ r, e = .returned (.float .f32 r) ∧ F32 r (fsqrt (spDot p p))) ∧ Below w.heap.size w w' := by
  have HP := Lib.hid hp
  have HB : Hid (Below w.heap.size w (w.alloc (.cells #[.float .f32 x, .float .f32 y, .float .f32 z] 46))) := by
    show Below _ _ _
    (repeat (first | exact Below.refl _ _ | assumption | refine below_dr ?_ _ | refine Below.alloc ?_ (by first | omega | (simp; done) | (simp; omega)) _ | refine Below.setCell ?_ (by first | omega | (simp; done) | (simp; omega)) _ | refine Below.trans ?_ (Below.mono (by assumption) (by first | omega | (simp; done) | (simp; omega)))))
  clear hp
  go_enter Try.func46, Try.ntmps46
  go_wp2_with (first
    | (go_at_call 49; refine (dotB x y z x y z p p HP.out HP.out _).mono ?_; rintro e w3 ⟨⟨r, rfl, hr⟩, hb3⟩; have HR := Lib.hid hr; have HB3 := Lib.hid (HB.out.trans (hb3.mono (by simp))); clear hr hb3)
    | (go_at_call 75; refine (rootNumber r _).mono ?_; rintro e w4 ⟨⟨s, rfl, hs⟩, n, rfl⟩; have HS := Lib.hid hs; clear hs))
  go_ret
  refine ⟨⟨s, rfl, ?_⟩, below_dr HB3.out n⟩
  have h1 := HS.out
  rw [HR.out] at h1
  exact h1

set_option maxHeartbeats 2000000 in
set_option maxRecDepth 100000 in
theorem area1 (x y z x' y' z' x2 y2 z2 : Nat) (p q s : Sp) (hp : IsSp x y z p) (hq : IsSp x' y' z' q) (hs : IsSp x2 y2 z2 s) (w : World) :
    Calls Try.prog 43 #[.agg #[.float .f32 x, .float .f32 y, .float .f32 z], .agg #[.float .f32 x', .float .f32 y', .float .f32 z'], .agg #[.float .f32 x2, .float .f32 y2, .float .f32 z2]] w fun e w' =>
      (∃ r, e = .returned (.float .f32 r) ∧ F32 r (areaG p q s)) ∧ Below w.heap.size w w' := by
  have HP := Lib.hid hp
  have HQ := Lib.hid hq
  have HS := Lib.hid hs
  have hX : OwnC (((w.alloc (.cells #[.float .f32 x, .float .f32 y, .float .f32 z] 46)).alloc (.cells #[.float .f32 x', .float .f32 y', .float .f32 z'] 46)).alloc (.cells #[.float .f32 x2, .float .f32 y2, .float .f32 z2] 46)) w.heap.size _ _ := ((OwnC.new (w := w) (cs := #[.float .f32 x, .float .f32 y, .float .f32 z]) (T := 46) rfl).alloc _).alloc _
  have hY : OwnC (((w.alloc (.cells #[.float .f32 x, .float .f32 y, .float .f32 z] 46)).alloc (.cells #[.float .f32 x', .float .f32 y', .float .f32 z'] 46)).alloc (.cells #[.float .f32 x2, .float .f32 y2, .float .f32 z2] 46)) (w.heap.size + 1) _ _ := (OwnC.new (w := w.alloc (.cells #[.float .f32 x, .float .f32 y, .float .f32 z] 46)) (cs := #[.float .f32 x', .float .f32 y', .float .f32 z']) (T := 46) (by simp)).alloc _
  have hZ : OwnC (((w.alloc (.cells #[.float .f32 x, .float .f32 y, .float .f32 z] 46)).alloc (.cells #[.float .f32 x', .float .f32 y', .float .f32 z'] 46)).alloc (.cells #[.float .f32 x2, .float .f32 y2, .float .f32 z2] 46)) (w.heap.size + 1 + 1) _ _ := OwnC.new (cs := #[.float .f32 x2, .float .f32 y2, .float .f32 z2]) (T := 46) (by simp)
  have hB : Below w.heap.size w (((w.alloc (.cells #[.float .f32 x, .float .f32 y, .float .f32 z] 46)).alloc (.cells #[.float .f32 x', .float .f32 y', .float .f32 z'] 46)).alloc (.cells #[.float .f32 x2, .float .f32 y2, .float .f32 z2] 46)) := by
    (repeat (first | exact Below.refl _ _ | assumption | refine below_dr ?_ _ | refine Below.alloc ?_ (by first | omega | (simp; done) | (simp; omega)) _ | refine Below.setCell ?_ (by first | omega | (simp; done) | (simp; omega)) _ | refine Below.trans ?_ (Below.mono (by assumption) (by first | omega | (simp; done) | (simp; omega)))))
  clear hp hq hs
  go_enter Try.func43, Try.ntmps43
  go_wp2_with fail
  generalize (((w.alloc (.cells #[.float .f32 x, .float .f32 y, .float .f32 z] 46)).alloc (.cells #[.float .f32 x', .float .f32 y', .float .f32 z'] 46)).alloc (.cells #[.float .f32 x2, .float .f32 y2, .float .f32 z2] 46)) = w0 at *
  have c0 := hX.cell 0
  have c1 := hX.cell 1
  have c2 := hX.cell 2
  have d0 := hY.cell 0
  have d1 := hY.cell 1
  have d2 := hY.cell 2
  have e0 := hZ.cell 0
  have e1 := hZ.cell 1
  have e2 := hZ.cell 2
  simp at c0 c1 c2 d0 d1 d2 e0 e1 e2
  have HB := Lib.hid hB
  clear hX hY hZ hB
  have HS0 : Hid (Below w0.heap.size w0 w0.drew) := Lib.hid (below_dr (Below.refl _ _) 1)
  go_region_held (fun w' => w'.cell? ⟨w.heap.size, 0, none⟩ = some (.float .f32 x) ∧ w'.cell? ⟨w.heap.size, 1, none⟩ = some (.float .f32 y) ∧ w'.cell? ⟨w.heap.size, 2, none⟩ = some (.float .f32 z) ∧ w'.cell? ⟨w.heap.size + 1, 0, none⟩ = some (.float .f32 x') ∧ w'.cell? ⟨w.heap.size + 1, 1, none⟩ = some (.float .f32 y') ∧ w'.cell? ⟨w.heap.size + 1, 2, none⟩ = some (.float .f32 z') ∧ w'.cell? ⟨w.heap.size + 1 + 1, 0, none⟩ = some (.float .f32 x2) ∧ w'.cell? ⟨w.heap.size + 1 + 1, 1, none⟩ = some (.float .f32 y2) ∧ w'.cell? ⟨w.heap.size + 1 + 1, 2, none⟩ = some (.float .f32 z2))
    (first | (refine ⟨?_, ?_, ?_, ?_, ?_, ?_, ?_, ?_, ?_⟩ <;> first | assumption | exact keep_cell (by assumption) (by assumption) | exact keep_cell (below_dr B4 _) (by assumption)))
    ((first
      | (go_at_call 44; (with_reducible refine (lessB x' y' z' x y z _ _ HQ.out HP.out _).mono ?_); rintro e w3 ⟨⟨a1, b1, c1', rfl, h1⟩, hb3⟩; have H1 := Lib.hid h1; have B1 : Below w0.heap.size w0 w3 := Below.trans (by first | exact B2 | exact HS0.out) (hb3.mono (by first | exact B2.size | exact Nat.le_refl _)); clear h1 hb3)
      | (go_at_call 44; (with_reducible refine (lessB x2 y2 z2 x y z _ _ HS.out HP.out _).mono ?_); rintro e w4 ⟨⟨a2, b2, c2', rfl, h2⟩, hb4⟩; have H2 := Lib.hid h2; have B2 : Below w0.heap.size w0 w4 := Below.trans (by first | exact B1 | exact HS0.out) (hb4.mono (by first | exact B1.size | exact Nat.le_refl _)); clear h2 hb4)
      | (go_at_call 45; (with_reducible refine (crossB a1 b1 c1' a2 b2 c2' _ _ H1.out H2.out _).mono ?_); rintro e w5 ⟨⟨a3, b3, c3, rfl, h3⟩, hb5⟩; have H3 := Lib.hid h3; have B3 : Below w0.heap.size w0 w5 := (by first | exact Below.trans B1 (hb5.mono B1.size) | exact Below.trans B2 (hb5.mono B2.size)); clear h3 hb5)
      | (go_at_call 46; (with_reducible refine (longB a3 b3 c3 _ H3.out _).mono ?_); rintro e w6 ⟨⟨r, rfl, hr⟩, hb6⟩; have HR := Lib.hid hr; have B4 : Below w0.heap.size w0 w6 := Below.trans B3 (hb6.mono B3.size); clear hr hb6)
      | (refine wpList_f rfl rfl rfl rfl (by decide) ?_; intro _ _ _; simp only [Act.put, List.setIfInBounds_toArray, List.set_cons_succ, List.set_cons_zero])))
  all_goals
    go_wp2_with fail
    go_ret
    refine ⟨⟨_, rfl, ?_⟩, below_dr (HB.out.trans (B4.mono HB.out.size)) _⟩
    exact F32.div HR.out (F32.lit (by decide +kernel))

set_option maxHeartbeats 4000000 in
set_option maxRecDepth 100000 in
theorem areaB (lo hi : Nat) (sa fa : Option Addr) (sc fc : Nat) (ps : List Sp) (fs : List (List Int)) (hp : ps.length ≤ 1048576) (hn : fs.length ≤ 1048576) (hsh : ∀ i, i < fs.length → (fAt fs i).length ≤ 1048576) (w : World)
    (hs : NetAt w lo hi sa fa ps fs) (hca : SlC w lo hi fa fs) (hh : hi ≤ w.heap.size) :
    Calls Try.prog 12 #[netV sa fa ps.length sc fs.length fc] w (RetF (areaV ps fs) (areaO ps fs) w) := by
  have A0 : OwnC (w.alloc (.cells #[.slice sa ps.length sc, .slice fa fs.length fc] 27)) w.heap.size #[.slice sa ps.length sc, .slice fa fs.length fc] 27 := OwnC.new rfl
  have IS := Lib.hid (validNet lo hi sa fa sc fc ps fs hp hn hsh (w.alloc (.cells #[.slice sa ps.length sc, .slice fa fs.length fc] 27)) (hs.far ((Far.refl _ _ _).alloc _ hh)) (hca.far ((Far.refl _ _ _).alloc _ hh)) (by simp; omega))
  have HS := Lib.hid hs
  have HSH := Lib.hid hsh
  have HA0 := Lib.hid A0
  clear hs hsh A0 hca
  unfold netV at *
  cases hv : okN ps fs
  · have HV : Hid (dec (OkNet ps fs (colA fs) (colB fs)) = false) := Lib.hid hv
    have HC : Hid (okN ps fs = false) := Lib.hid hv
    clear hv
    go_enter Try.func12, Try.ntmps12
    go_wp2_with (go_at_call 26; refine IS.out.mono ?_; rintro e w3 ⟨rfl, hb3⟩; rw [HV.out])
    go_ret2
    exact RetA.no HC.out (Below.trans (by (repeat (first | exact Below.refl _ _ | assumption | refine below_dr ?_ _ | refine Below.alloc ?_ (by first | omega | (simp; done) | (simp; omega)) _ | refine Below.setCell ?_ (by first | omega | (simp; done) | (simp; omega)) _ | refine Below.trans ?_ (Below.mono (by assumption) (by first | omega | (simp; done) | (simp; omega)))))) (hb3.mono (by simp)))
  have HV : Hid (dec (OkNet ps fs (colA fs) (colB fs)) = true) := Lib.hid hv
  have hok := okN_net hv
  have HIN : Hid (∀ i, i < fs.length → InN ps.length (fAt fs i)) := fun i h => (hok.facets i h).inN
  have H3 : Hid (∀ i, i < fs.length → 3 ≤ (fAt fs i).length) := fun i h => (hok.facets i h).1
  have HV1 : Hid (areaV ps fs = ifFin (triF areaG ps fs fs.length)) := Lib.hid (by simp [areaV, hv])
  have HV2 : Hid (areaO ps fs = fin (triF areaG ps fs fs.length)) := Lib.hid (by simp [areaO, hv])
  clear hv hok
  go_enter Try.func12, Try.ntmps12
  go_wp2_with (go_at_call 26; refine IS.out.mono ?_; rintro e w3 ⟨rfl, hb3⟩; rw [HV.out]; have A3 := HA0.out.below hb3 (by first | omega | (simp; done) | (simp; omega)); have q0 := A3.cell 0; have q1 := A3.cell 1; simp at q0 q1)
  have z3 := hb3.size
  simp at z3
  have HB3 : Hid (Below w.heap.size w w3) := Below.trans (by (repeat (first | exact Below.refl _ _ | assumption | refine below_dr ?_ _ | refine Below.alloc ?_ (by first | omega | (simp; done) | (simp; omega)) _ | refine Below.setCell ?_ (by first | omega | (simp; done) | (simp; omega)) _ | refine Below.trans ?_ (Below.mono (by assumption) (by first | omega | (simp; done) | (simp; omega)))))) (hb3.mono (by simp))
  have HST : Hid (∀ j k P w1 x y z x' y' z' x2 y2 z2, j < fs.length → k + 2 < (fAt fs j).length → (fun (_ _ : Nat) (P : Nat → Prop) (_ : World) => ∀ b, ¬ P b) j k P w1 → IsSp x y z (cornP ps (fAt fs j) 0) → IsSp x' y' z' (cornP ps (fAt fs j) (k + 1)) → IsSp x2 y2 z2 (cornP ps (fAt fs j) (k + 2)) →
      Calls Try.prog 43 (#[.agg #[.float .f32 x, .float .f32 y, .float .f32 z], .agg #[.float .f32 x', .float .f32 y', .float .f32 z'], .agg #[.float .f32 x2, .float .f32 y2, .float .f32 z2]] ++ #[]) w1 fun e w' => (∃ r, e = .returned (.float .f32 r) ∧ F32 r (triG areaG ps (fAt fs j) k)) ∧ ∃ P', (fun (_ _ : Nat) (P : Nat → Prop) (_ : World) => ∀ b, ¬ P b) j (k + 1) P' w' ∧ Ch P w1 w' ∧ ∀ b, P' b → P b ∨ w1.heap.size ≤ b) :=
    fun j k P w1 x y z x' y' z' x2 y2 z2 h1 h2 hJ q0 q1 q2 => by
      refine (area1 x y z x' y' z' x2 y2 z2 _ _ _ q0 q1 q2 w1).mono ?_
      rintro e w' ⟨hr, hb⟩
      exact ⟨hr, P, hJ, Ch.below hb, fun b hb => .inl hb⟩
  have HSF := Lib.hid (HS.out.far (Far.below HB3.out hh))
  have HK : Hid (Keeps2 (fun (_ _ : Nat) (P : Nat → Prop) (_ : World) => ∀ b, ¬ P b)) := ⟨fun h _ _ => h, fun h b hb => (h b hb).elim⟩
  clear hb3
  refine (overTri areaG _ HK.out 43 _ (fun _ _ => rfl) lo hi sa fa sc fc ps fs hp hn HSH.out H3.out HIN.out _ (fun j P w1 _ h => h) HST.out HSF.out (by omega) (fun _ => False) (fun _ h => h) (fun b h => h.elim)).mono ?_
  rintro e w4 ⟨⟨r, rfl, hr⟩, P, hwk⟩
  have HB4 : Hid (Below w.heap.size w w4) := HB3.out.trans (hwk.ch.toBelow (by omega) (fun b hb => hb.elim))
  have HR := Lib.hid hr
  clear hwk q0 q1 HB3 HST hr
  go_wp2_with fail
  refine (ifNumber r _).mono ?_
  rintro e w5 ⟨⟨v, rfl, hv⟩, n', rfl⟩
  have h1 := HR.out
  unfold F32 at h1
  rw [h1] at hv
  rw [h1]
  have HV := Lib.hid hv
  clear hv h1
  go_wp2_with fail
  go_ret2
  rw [HV1.out, HV2.out]
  exact ⟨⟨v, rfl, HV.out⟩, by have := HB4.out; (repeat (first | exact Below.refl _ _ | assumption | refine below_dr ?_ _ | refine Below.alloc ?_ (by first | omega | (simp; done) | (simp; omega)) _ | refine Below.setCell ?_ (by first | omega | (simp; done) | (simp; omega)) _ | refine Below.trans ?_ (Below.mono (by assumption) (by first | omega | (simp; done) | (simp; omega)))))⟩
end Go.Proofs.Ytkjljajjjhfklaa

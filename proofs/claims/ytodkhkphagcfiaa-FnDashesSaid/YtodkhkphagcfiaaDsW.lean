/- Dashes: DashPath walked. -/
import Derived.Test.YtodkhkphagcfiaaDsU
import Derived.Test.YtodkhkphagcfiaaDsG
namespace Go.Fl
open Ieee Go.RowKit
/-- the call's own two variables: the pattern's, the count -/
structure DO (T4 T8 : TypeId) (w wr : World) (b4 b8 : Nat) (pv : Value) (c : Nat) : Prop where
  o4 : OwnC wr b4 #[pv] T4
  o8 : OwnC wr b8 #[.int .i64 (c : Nat)] T8
  be : Below w.heap.size w wr
  h4 : w.heap.size ≤ b4
  h8 : b4 < b8
section
variable {T4 T8 : TypeId} {w wr w' : World} {b4 b8 c : Nat} {pv : Value}
theorem DO.c4 (h : DO T4 T8 w wr b4 b8 pv c) : wr.cell? ⟨b4, 0, none⟩ = some pv := by rw [h.o4.cell]; rfl
theorem DO.c8 (h : DO T4 T8 w wr b4 b8 pv c) : wr.cell? ⟨b8, 0, none⟩ = some (.int .i64 (c : Nat)) := by rw [h.o8.cell]; rfl
theorem DO.f8 (h : DO T4 T8 w wr b4 b8 pv c) : wr.frozen? ⟨b8, 0, none⟩ = false := h.o8.free 0
theorem DO.below (h : DO T4 T8 w wr b4 b8 pv c) (hb : Below wr.heap.size wr w') : DO T4 T8 w w' b4 b8 pv c :=
  ⟨h.o4.below hb h.o4.lt, h.o8.below hb h.o8.lt, h.be.trans (hb.mono h.be.size), h.h4, h.h8⟩
theorem DO.drewN (h : DO T4 T8 w wr b4 b8 pv c) (q : Nat) : DO T4 T8 w (wr.drewN q) b4 b8 pv c := h.below (below_dr (Below.refl _ _) q)
theorem DO.base {B : Nat} (h : DO T4 T8 w wr b4 b8 pv c) (hB : b8 < B) (hb : Below B wr w') : DO T4 T8 w w' b4 b8 pv c := by
  have := h.h4
  have := h.h8
  exact ⟨h.o4.below hb (by omega), h.o8.below hb hB, h.be.trans (hb.mono (by omega)), h.h4, h.h8⟩
theorem DO.grew {g : Nat} (h : DO T4 T8 w wr b4 b8 pv c) (hg : Grew g wr w') (hgb : b8 < g) : DO T4 T8 w w' b4 b8 pv c := by
  have := h.h4
  have := h.h8
  have := h.be.size
  exact ⟨own_grew h.o4 hg (by omega), own_grew h.o8 hg (by omega), below_grew h.be hg (by omega) (Nat.le_refl _), h.h4, h.h8⟩
theorem DO.count (h : DO T4 T8 w wr b4 b8 pv c) (k : Nat) {v : Int} (hv : v = (k : Int)) : DO T4 T8 w (wr.setCell ⟨b8, 0, none⟩ (.int .i64 v)) b4 b8 pv k := by
  subst hv
  have h4 := h.h4
  have h8 := h.h8
  exact ⟨h.o4.other _ _ (by show b4 ≠ b8; omega), (h.o8.set 0 (.int .i64 (k : Nat))).congr (by simp), h.be.setCell (by show w.heap.size ≤ b8; omega) _, h4, h8⟩
end
/-- how often the pattern was changed, as the memory tells it -/
def cntOf (w : World) (b : Nat) : Nat := match w.cell? ⟨b, 0, none⟩ with | some v => (intOf v).toNat | none => 0
theorem DO.cnt {T4 T8 : TypeId} {w wr : World} {b4 b8 c : Nat} {pv : Value} (h : DO T4 T8 w wr b4 b8 pv c) : cntOf wr b8 = c := by unfold cntOf; rw [h.c8]; simp [intOf]
theorem ord_gt32 {x y : Nat} (hx : isN .f32 x = true) (hy : isN .f32 y = true) : (FloatKind.f32.format.order x y == some .gt) = decide (R .f32 y < R .f32 x) := by
  rw [ord_V hx hy]
  cases h : compare (V .f32 x) (V .f32 y)
  · rw [Int.compare_eq_lt] at h; simp [R_lt]; omega
  · rw [Int.compare_eq_eq] at h; simp [R_lt, h]
  · rw [Int.compare_eq_gt] at h; simp [R_lt, h]
/-- the slice of the dash that is being cut -/
def DashV (wr : World) (T : TypeId) (top c : Nat) (d : List Cx) (dv : Value) : Prop := c % 2 = 0 → ∃ gd cd, dv = .slice (some ⟨gd, 0, none⟩) d.length cd ∧ top ≤ gd ∧ ORow wr T 1 gd cd d.length (d.map cV)
theorem LsAt.start (w : World) (T : TypeId) (o : Obj) {base : Nat} (hb : base ≤ w.heap.size) (q : Nat) : LsAt (((w.alloc (.cells #[] T)).alloc o).drewN q) T base (w.heap.size + 1) (some ⟨w.heap.size, 0, none⟩) 0 [] :=
  .inr ⟨w.heap.size, fun _ => 0, fun _ => 0, rfl, hb, Nat.lt_succ_self _, (show ORow (((w.alloc (.cells #[] T)).alloc o).drewN q) T 1 w.heap.size 0 0 [] from (ORow.new w T 1).far (lo := w.heap.size) (hi := w.heap.size + 1) (((Far.refl _ _ _).alloc o (by simp)).drewN q) (Nat.le_refl _) (Nat.lt_succ_self _)), fun i hi => absurd hi (Nat.not_lt_zero _)⟩
theorem DashV.start (w : World) (T : TypeId) (top c : Nat) (p : Cx) (q : Nat) (h : top ≤ w.heap.size) : DashV ((w.alloc (.cells #[.complex .f32 p.1 p.2] T)).drewN q) T top c [p] (.slice (some ⟨w.heap.size, 0, none⟩) 1 1) := fun _ =>
  ⟨w.heap.size, 1, rfl, h, ORow.full w T #[.complex .f32 p.1 p.2] (by simp)⟩
theorem DashV.far {wr w' : World} {T : TypeId} {top c : Nat} {d : List Cx} {dv : Value} (h : DashV wr T top c d dv) (hf : Far top wr.heap.size wr w') : DashV w' T top c d dv := fun e => by
  obtain ⟨gd, cd, h1, h2, h3⟩ := h e
  exact ⟨gd, cd, h1, h2, h3.far hf h2 h3.lt⟩
def RetD (Inv : Nat → Nat → Nat → Nat → List Cx → List (List Cx) → Prop) (T : TypeId) (xs : List Cx) (w : World) (e : Ending) (w' : World) : Prop :=
  ∃ ao cap c g r d out, e = .returned (.tuple #[.slice ao (finO c d out).length cap, .bool true]) ∧ Inv (xs.length - 1) c g r d out ∧ LsAt w' T w.heap.size w'.heap.size ao cap (finO c d out)
end Go.Fl
namespace Go.Proofs.Ytodkhkphagcfiaa
open Go.RowKit Go.Fl

set_option maxHeartbeats 4000000 in
set_option maxRecDepth 100000 in
theorem dashPathN {on off : Rat} {xs : List Cx} (C : Ctx xs on off) {pt S : Nat → Nat} {K r0 : Nat} {Inv : Nat → Nat → Nat → Nat → List Cx → List (List Cx) → Prop} (A : DAlg xs pt K Inv) (SA : SAlg pt K S r0) (h0 : Inv 0 K 0 r0 [cAt xs 0] []) (hx : ∀ z, z ∈ xs → nN z)
    (bS n cS pb cp : Nat) (hn : xs.length = n) (w : World) (hb : bS < w.heap.size) (hpb : pb < w.heap.size) (hc : ∀ i, i < n → w.cell? ⟨bS, i, none⟩ = some (cV (cAt xs i))) (hp : ∀ i, i < 2 → w.cell? ⟨pb, i, none⟩ = some (.float .f32 (pt i))) (hpt : ∀ c, pt c = pt (c % 2)) :
    Calls Try.prog 8 #[.slice (some ⟨bS, 0, none⟩) n cS, .slice (some ⟨pb, 0, none⟩) 2 cp, .float .f32 (S 0)] w fun e w' => RetD Inv 24 xs w e w' ∧ Below w.heap.size w w' := by
  have HA := Lib.hid A
  have HS := Lib.hid SA
  have H0 := Lib.hid h0
  have HN := Lib.hid hn
  have HC := Lib.hid hc
  have HP := Lib.hid hp
  have HPT := Lib.hid hpt
  have HCT := Lib.hid C
  have n2 : 2 ≤ n := by rw [← hn]; exact C.n1
  have n7 : n ≤ 7 := by rw [← hn]; exact C.n2
  have n7' : (n : Int) ≤ 7 := by omega
  have k4 := SA.k4
  have nn := SA.nn
  have HIP := Lib.hid (isPathN bS n cS xs C hn hx (w.alloc (.cells #[.slice (some ⟨pb, 0, none⟩) 2 cp] 34)) (by simp; omega) (fun i hi => (Below.cell (p := ⟨bS, i, none⟩) (Below.alloc (Below.refl w.heap.size w) (Nat.le_refl _) _) hb).trans (hc i hi)))
  have HAM := Lib.hid (fun (W : World) (hW : Below w.heap.size w W) => areMore [pt 0, pt 1] (.slice (some ⟨pb, 0, none⟩) 2 cp) W (.inr ⟨pb, 0, cp, rfl, by simp, fun i hi => by
    have hi2 : i < 2 := by simpa using hi
    rw [Nat.zero_add]
    refine (Below.cell (p := ⟨pb, i, none⟩) hW hpb).trans ((hp i hi2).trans ?_)
    have : i = 0 ∨ i = 1 := by omega
    rcases this with rfl | rfl <;> rfl⟩))
  have HAB := Lib.hid (show ([pt 0, pt 1].all fun x => above (can .f32 x)) = true by
    simp only [List.all_cons, List.all_nil, Bool.and_true]
    rw [aboveN (SA.p 0).1 (SA.p 0).2, aboveN (SA.p 1).1 (SA.p 1).2]; rfl)
  have HF0 := Lib.hid (fun W => isFiniteN (SA.s 0 (Nat.zero_le _)) W)
  obtain ⟨s0, hs0⟩ : ∃ s, s = S 0 := ⟨_, rfl⟩
  rw [← hs0] at nn HF0 ⊢
  have HS0 := Lib.hid hs0
  clear A SA h0 hn hc hp hpt C hx hs0
  go_enter Try.func8, Try.ntmps8
  go_wp2_with fail
  refine HIP.out.mono ?_
  rintro e w1 ⟨rfl, hb1⟩
  have hb1w : Below w.heap.size w w1 := (Below.alloc (Below.refl w.heap.size w) (Nat.le_refl _) _).trans (hb1.mono (by simp))
  have HB1 := Lib.hid hb1w
  have c4 : w1.cell? ⟨w.heap.size, 0, none⟩ = some (.slice (some ⟨pb, 0, none⟩) 2 cp) := (Below.cell (p := ⟨w.heap.size, 0, none⟩) hb1 (by simp)).trans (by rw [World.cell?_alloc_at _ _ _ _ rfl]; rfl)
  have HO4 := Lib.hid (show OwnC w1 w.heap.size #[.slice (some ⟨pb, 0, none⟩) 2 cp] 34 from (OwnC.new rfl).below hb1 (by simp))
  clear hb1 hb1w
  go_wp2_with fail
  refine (HAM.out w1 HB1.out).mono ?_
  rintro e w2 ⟨rfl, q2, rfl⟩
  rw [HAB.out]
  go_wp2_with fail
  refine (HF0.out _).mono ?_
  rintro e w3 ⟨rfl, q3, rfl⟩
  have ho : (FloatKind.f32.format.order s0 0 == some Ordering.gt || FloatKind.f32.format.order s0 0 == some Ordering.eq) = true := by rcases nn with h | h <;> rw [h] <;> rfl
  clear nn
  go_wp2_with fail
  have hd0 : DO 34 3 w (w1.alloc (.cells #[.int .i64 0] 3)) w.heap.size w1.heap.size (.slice (some ⟨pb, 0, none⟩) 2 cp) 0 :=
    ⟨HO4.out.alloc _, OwnC.new rfl, HB1.out.alloc HB1.out.size _, Nat.le_refl _, HO4.out.lt⟩
  have HD0 := Lib.hid (hd0.drewN (q2 + q3))
  have hw1 : w.heap.size < w1.heap.size := HO4.out.lt
  clear hd0 HO4 c4 HIP HAM HAB HF0 ho
  obtain ⟨b8, hb8⟩ : ∃ b, b = w1.heap.size := ⟨_, rfl⟩
  have hb8w : w.heap.size < b8 := by omega
  have HPC := Lib.hid (fun (W : World) (c : Nat) (hW : Below w.heap.size w W) => (by
    rw [HPT.out c]
    exact (Below.cell (p := ⟨pb, c % 2, none⟩) hW hpb).trans (HP.out (c % 2) (Nat.mod_lt _ (by decide))) : W.cell? ⟨pb, c % 2, none⟩ = some (.float .f32 (pt c))))
  rw [← hb8] at HD0 ⊢
  clear hb8
  go_loopw [2] (fun st wr => ∃ k : Nat, k ≤ K ∧ st = .float .f32 (S k) ∧ Hid (DO 34 3 w wr w.heap.size b8 (.slice (some ⟨pb, 0, none⟩) 2 cp) k)) (fun _ wr => K - cntOf wr b8)
  case atStart => exact ⟨0, Nat.zero_le _, by rw [HS0.out], HD0⟩
  case round =>
    obtain ⟨k, hk, rfl, HD⟩ := hrel
    have cc4 := HD.out.c4
    have cc8 := HD.out.c8
    have cf8 := HD.out.f8
    have hkc := HPC.out wr k HD.out.be
    by_cases hlt : k < K
    · obtain ⟨o1, o2, o3⟩ := HS.out.go k hlt
      obtain ⟨m1, d1⟩ := run_fopN o2
      have dz : ∀ w : World, w.drewN 0 = w := World.drewN_zero
      have HSE := Lib.hid o3
      have HCU := Lib.hid (fun q => currentN w.heap.size b8 pb cp k (pt k) (wr.drewN q) (by omega) cc4 cc8 hkc)
      have HCU0 := Lib.hid (currentN w.heap.size b8 pb cp k (pt k) wr (by omega) cc4 cc8 hkc)
      obtain ⟨x, hx⟩ : ∃ x, x = pt k := ⟨_, rfl⟩
      rw [← hx] at HCU0
      rw [← hx] at HCU o1 m1 d1 HSE
      have k0 : (0 : Int) ≤ (k : Int) := by omega
      have k5 : (k : Int) < 4 := by omega
      have hcnt := Lib.hid HD.out.cnt
      clear o2 o3 hx hkc
      go_wp2_with fail
      (with_reducible refine HCU0.out.mono ?_)
      rintro e w4 ⟨rfl, p4, rfl⟩
      go_wp2_with fail
      refine (HCU.out _).mono ?_
      rintro e w5 ⟨rfl, p5, rfl⟩
      go_wp2_with fail
      have hd' := Lib.hid ((HD.out.count (k + 1) (v := (k : Int) + 1) (by omega)).drewN (p4 + p5))
      exact ⟨⟨k + 1, by omega, by rw [HSE.out], hd'⟩, by
        have e1 := hcnt.out
        have e2 := hd'.out.cnt
        show K - cntOf _ b8 < K - cntOf _ b8
        rw [e1, e2]
        omega⟩
    · have hkK : k = K := by omega
      subst hkK
      have o1 := HS.out.stop
      obtain ⟨o2, o3⟩ := HS.out.r
      obtain ⟨m1, d1⟩ := run_fopN o2
      have dz : ∀ w : World, w.drewN 0 = w := World.drewN_zero
      have HCU0 := Lib.hid (currentN w.heap.size b8 pb cp k (pt k) wr (by omega) cc4 cc8 hkc)
      have HCU := Lib.hid (fun q => currentN w.heap.size b8 pb cp k (pt k) (wr.drewN q) (by omega) cc4 cc8 hkc)
      have HR0 := Lib.hid o3
      obtain ⟨x, hx⟩ : ∃ x, x = pt k := ⟨_, rfl⟩
      rw [← hx] at HCU0 HCU o1 m1 d1 HR0
      have g1 := HC.out 0 (by omega)
      have g2 := (HD.out.be.cell (p := ⟨bS, 0, none⟩) hb).trans g1
      have i1 : (0 : Int) < (n : Int) := by omega
      have i2 : ¬ bS = wr.heap.size := by have := HD.out.be.size; omega
      have i3 : bS < wr.heap.size := by have := HD.out.be.size; omega
      unfold cV at g2
      clear o2 o3 hx hkc hlt g1
      go_wp2_with fail
      (with_reducible refine HCU0.out.mono ?_)
      rintro e w4 ⟨rfl, p4, rfl⟩
      go_wp2_with fail
      (with_reducible refine (HCU.out _).mono ?_)
      rintro e w5 ⟨rfl, p5, rfl⟩
      go_wp2_with fail
      have HL2 := Lib.hid (LsAt.start wr 24 (.cells #[.complex .f32 (cAt xs 0).1 (cAt xs 0).2] 30) (show b8 + 1 ≤ wr.heap.size from HD.out.o8.lt) (p4 + p5))
      have hv2 := DashV.start (wr.alloc (.cells #[] 24)) 30 (wr.heap.size + 1) k (cAt xs 0) (p4 + p5) (by simp)
      rw [show (wr.alloc (.cells #[] 24)).heap.size = wr.heap.size + 1 by simp] at hv2
      have HV2 := Lib.hid hv2
      have HO2 := Lib.hid (((HD.out.below (Below.alloc (Below.refl _ _) (Nat.le_refl _) (.cells #[] 24))).below (Below.alloc (Below.refl _ _) (Nat.le_refl _) (.cells #[.complex .f32 (cAt xs 0).1 (cAt xs 0).2] 30))).drewN (p4 + p5))
      have hb8l : b8 + 1 ≤ wr.heap.size + 1 := by have := HD.out.o8.lt; omega
      rw [← HR0.out]
      clear hv2 g2 i1 i2 i3 cc4 cc8 cf8 HCU HCU0 m1 d1 o1 HD0 HB1
      go_loopw [10, 13, 14, 15] (fun rv ov dv iv wr => ∃ (j c r M top capo : Nat) (ao : Option Addr) (d : List Cx) (out : List (List Cx)), j + 1 ≤ n ∧ iv = .int .i64 ((j + 1 : Nat) : Int) ∧ rv = .float .f32 r ∧ ov = .slice ao M capo ∧ M ≤ 30 ∧ b8 + 1 ≤ top ∧ top ≤ wr.heap.size ∧ Hid (M = out.length) ∧ Hid (Inv j c 0 r d out) ∧ Hid (DashV wr 30 top c d dv) ∧ Hid (LsAt wr 24 (b8 + 1) top ao capo out) ∧ Hid (DO 34 3 w wr w.heap.size b8 (.slice (some ⟨pb, 0, none⟩) 2 cp) c)) (fun _ _ _ iv _ => n - (intOf iv).toNat)
      case atStart => exact ⟨0, k, r0, 0, wr.heap.size + 1, 0, _, _, [], by omega, rfl, rfl, rfl, by omega, hb8l, by simp, Lib.hid rfl, H0, HV2, HL2, HO2⟩
      case round =>
        obtain ⟨j, c, r, M, top, capo, ao, d, out, hj, rfl, rfl, rfl, hM, ht1, ht2, HM, HI, HV, HL, HO⟩ := hrel
        obtain ⟨J, hJ⟩ : ∃ J, J = j + 1 := ⟨_, rfl⟩
        rw [← hJ] at hj ⊢
        have HJ := Lib.hid hJ
        have kJ : (J : Int) - 1 = (j : Int) := by omega
        have hcb := HA.out.cb HI.out
        have hc60 : c ≤ 60 := hcb.2.1
        have hkc : k ≤ c := hcb.1
        clear hcb
        by_cases hlt : J < n
        · have J0 : (0 : Int) ≤ (J : Int) := by omega
          have J1 : (J : Int) < (n : Int) := by omega
          have j0 : (0 : Int) ≤ (j : Int) := by omega
          have j1 : (j : Int) < (n : Int) := by omega
          have kW : IntKind.i64.wrap ((J : Int) - 1) = (j : Int) := by rw [kJ]; exact IntWalk.i64_in _ (by omega)
          have kW2 : IntKind.i64.wrap (j : Int) = (j : Int) := IntWalk.i64_in _ (by omega)
          have hs := HCT.out.seg j (by rw [HN.out]; omega)
          have g1 := (HO.out.be.cell (p := ⟨bS, j, none⟩) hb).trans (HC.out j (by omega))
          have g2 := (HO.out.be.cell (p := ⟨bS, J, none⟩) hb).trans (HC.out J hlt)
          rw [← hJ] at hs
          obtain ⟨P, hP⟩ : ∃ P, P = cAt xs j := ⟨_, rfl⟩
          obtain ⟨Q, hQ⟩ : ∃ Q, Q = cAt xs J := ⟨_, rfl⟩
          rw [← hP, ← hQ] at hs
          rw [← hP] at g1
          rw [← hQ] at g2
          obtain ⟨L, hL⟩ : ∃ L, L = lenF P Q := ⟨_, rfl⟩
          obtain ⟨V, hV⟩ : ∃ V, V = minusF Q P := ⟨_, rfl⟩
          have HMI : Hid (∀ W, Calls Try.prog 20 #[.complex .f32 Q.1 Q.2, .complex .f32 P.1 P.2] W fun e w' => e = .returned (.complex .f32 V.1 V.2) ∧ w' = W) := Lib.hid fun W => by rw [hV]; exact minusN hs.d W
          have HLO : Hid (∀ W, Calls Try.prog 19 #[.complex .f32 V.1 V.2] W fun e w' => e = .returned (.float .f32 L) ∧ w' = W) := Lib.hid fun W => by rw [hL]; unfold lenF; rw [← hV]; exact longN (hV ▸ hs.len.ln) W
          have HPP := Lib.hid hP
          have HQQ := Lib.hid hQ
          have HLL := Lib.hid hL
          have HVV := Lib.hid hV
          have HSS := Lib.hid hs
          unfold cV at g1 g2
          have HI2 := HI
          clear hJ hP hQ hL hV hs
          go_wp2_with fail
          go_quiet (fail)
          go_wp2_with fail
          refine (HMI.out _).mono ?_
          rintro e wr ⟨rfl, rfl⟩
          go_wp2_with fail
          refine (HLO.out _).mono ?_
          rintro e wr ⟨rfl, rfl⟩
          go_wp2_with fail
          have hO := HO.out.drewN nq
          have hV := HV.out
          have hLs := HL.out
          clear HI g1 g2
          go_loopw [10, 13, 14, 19] (fun rv ov dv gv wr => ∃ (c r g M top capo : Nat) (ao : Option Addr) (d : List Cx) (out : List (List Cx)), gv = .float .f32 g ∧ rv = .float .f32 r ∧ ov = .slice ao M capo ∧ M ≤ 30 ∧ b8 + 1 ≤ top ∧ top ≤ wr.heap.size ∧ Hid (M = out.length) ∧ Hid (Inv j c g r d out) ∧ Hid (DashV wr 30 top c d dv) ∧ Hid (LsAt wr 24 (b8 + 1) top ao capo out) ∧ Hid (DO 34 3 w wr w.heap.size b8 (.slice (some ⟨pb, 0, none⟩) 2 cp) c)) (fun _ _ _ _ wr => 100 - cntOf wr b8)
          case atStart => exact ⟨c, r, 0, M, top, capo, ao, d, out, rfl, rfl, rfl, hM, ht1, ht2, HM, HI2, Lib.hid hV, Lib.hid hLs, Lib.hid hO⟩
          case round =>
            clear HV HL HO hO hV hLs HI2 HM
            obtain ⟨c, r, g, M, top, capo, ao, d, out, rfl, rfl, rfl, hM, ht1, ht2, HM, HI, HV, HL, HO⟩ := hrel
            have hcb := HA.out.cb HI.out
            have hc60 : c ≤ 60 := hcb.2.1
            have hkc : k ≤ c := hcb.1
            have hrN := hcb.2.2.2.2
            have hdl := Lib.hid hcb.2.2.1
            have hcnt := Lib.hid HO.out.cnt
            have hJn : j + 1 < xs.length := by have := HJ.out; have := HN.out; omega
            have hsub := HA.out.sub HI.out hJn
            have eL : lF xs j = L := by rw [HLL.out, HPP.out, HQQ.out, HJ.out]; rfl
            rw [eL] at hsub
            obtain ⟨m1, d1⟩ := run_fopN hsub
            have dz : ∀ w : World, w.drewN 0 = w := World.drewN_zero
            have hgr := ord_gt32 hsub hrN
            have cc4 := HO.out.c4
            have cc8 := HO.out.c8
            have cf8 := HO.out.f8
            have c0 : (0 : Int) ≤ (c : Int) := by omega
            have c61 : (c : Int) ≤ 60 := by omega
            have kc : (k : Int) ≤ (c : Int) := by omega
            have k0 : (0 : Int) ≤ (k : Int) := by omega
            have M0 : (0 : Int) ≤ (M : Int) := by omega
            have M1 : (M : Int) ≤ 30 := by omega
            by_cases hgt : R .f32 r < R .f32 (fop .sub .f32 L g)
            · obtain ⟨n1, hp, hI'⟩ := HA.out.change HI.out hJn (by rw [eL]; exact hgt)
              rw [decide_eq_true hgt] at hgr
              rw [← HJ.out, ← HPP.out, ← HQQ.out] at hp
              rw [← HJ.out, ← HPP.out, ← HQQ.out] at hI'
              have hcb' := HA.out.cb hI'
              have hc59 : c + 1 ≤ 60 := hcb'.2.1
              have hM9 : (chO c d (placeF P Q (fop .add .f32 g r)) out).length ≤ 30 := hcb'.2.2.2.1
              obtain ⟨m2, d2⟩ := run_fopN n1
              obtain ⟨G, hG⟩ : ∃ G, G = fop .add .f32 g r := ⟨_, rfl⟩
              rw [← hG] at hp hI' m2 hM9
              have hq := hp.q
              have hsc := hp.s
              have hpl := hp.p
              unfold placeF at hpl
              rw [← HLL.out, ← HVV.out] at hsc hpl
              rw [← HLL.out] at hq
              obtain ⟨m3, d3⟩ := run_fopN hq
              obtain ⟨X, hX⟩ : ∃ X, X = placeF P Q G := ⟨_, rfl⟩
              have hX2 : plusF P (scaleF V (fop .quo .f32 G L)) = X := by rw [hX]; unfold placeF; rw [← HVV.out, ← HLL.out]
              obtain ⟨Y, hY⟩ : ∃ Y, Y = scaleF V (fop .quo .f32 G L) := ⟨_, rfl⟩
              obtain ⟨t, ht⟩ : ∃ t, t = fop .quo .f32 G L := ⟨_, rfl⟩
              have HSC : Hid (∀ W, Calls Try.prog 22 #[.complex .f32 V.1 V.2, .float .f32 t] W fun e w' => e = .returned (.complex .f32 Y.1 Y.2) ∧ w' = W) := Lib.hid fun W => by rw [hY, ht]; exact scaleN hsc W
              have HPL : Hid (∀ W, Calls Try.prog 21 #[.complex .f32 P.1 P.2, .complex .f32 Y.1 Y.2] W fun e w' => e = .returned (.complex .f32 X.1 X.2) ∧ w' = W) := Lib.hid fun W => by rw [← hX2, ← hY]; rw [← hY] at hpl; exact plusN hpl W
              rw [← hX] at hI' hM9
              rw [← ht] at m3
              have HI' := Lib.hid hI'
              clear hX hX2 hY ht hG hp hq hsc hpl hI' hcb hcb' hsub eL HI n1 hrN hJn
              by_cases he : c % 2 = 0
              · obtain ⟨gd, cd, hdv, hgd, hrow⟩ := HV.out he
                have HRow := Lib.hid hrow
                obtain ⟨m, hm⟩ : ∃ m, m = d.length := ⟨_, rfl⟩
                rw [← hm] at hdv HRow
                subst hdv
                have hmd : m ≤ 60 := by rw [hm]; exact hdl.out he
                have HMD := Lib.hid hm
                have HIS := Lib.hid (fun W (h8 : W.cell? ⟨b8, 0, none⟩ = some (.int .i64 (c : Nat))) => isDashY b8 c W (by omega) he h8)
                unfold chO at hM9
                rw [if_pos he, List.length_append] at hM9
                have hM8 : M + 1 ≤ 30 := by have := HM.out; simp at hM9; omega
                have M2 : (M : Int) + 1 ≤ 30 := by omega
                clear hm hrow hM9
                go_wp2_with fail
                refine (HMI.out _).mono ?_
                rintro e wr ⟨rfl, rfl⟩
                go_wp2_with fail
                refine (HSC.out _).mono ?_
                rintro e wr ⟨rfl, rfl⟩
                go_wp2_with fail
                refine (HPL.out _).mono ?_
                rintro e wr ⟨rfl, rfl⟩
                go_wp2_with fail
                refine (HIS.out _ cc8).mono ?_
                rintro e wr ⟨rfl, rfl⟩
                have hgdl := HRow.out.lt
                have hb8gd : b8 < gd := by omega
                go_wp2_with (first
                  | (at_builtin; refine wpList_app2 rfl _ _ _ rfl 30 (.complex .f32 0 0) 1 8 Try.underlying24 infoCx rfl (by decide) _ #[.complex .f32 X.1 X.2] 30 rfl (by simp [Value.oneCell']) _ gd cd m _ rfl rfl rfl HRow.out (by omega) (by decide) ?_; intro b6 cap6 w6 hr6 hbb6 hgr6; have HR6 := Lib.hid hr6; have HB6 := Lib.hid hbb6; have HO6 := Lib.hid (HO.out.grew hgr6 hb8gd); have HL6 := Lib.hid (HL.out.far (hgr6.far (lo := b8 + 1) (hi := top) ht2 (.inl hgd))); have hz6 := hgr6.size; clear hr6 hbb6 hgr6)
                  | (at_builtin; refine wpList_appL rfl _ _ _ rfl 24 (.slice none 0 0) 24 Try.underlying31 infoSl rfl (by decide) w6 (b8 + 1) top ao capo M out b6 cap6 (m + 1) _ (d ++ [X]) rfl HM.out rfl rfl HL6.out (OwnC1.row (T := 30) (cap := cap6) (by rw [List.map_append]; exact HR6.out) (by rw [List.length_append, ← HMD.out]; rfl)) (by rw [List.length_append, ← HMD.out]; rfl) (by have := HB6.out; omega) (by omega) HR6.out.lt (by omega) (by have := HM.out; omega) ?_; intro ao8 cap8 w8 hl8 hb8x hz8; have HL8 := Lib.hid hl8; have HO8 := Lib.hid (HO6.out.base (Nat.lt_succ_self _) hb8x); have e8 := HO8.out.c8; have f8 := HO8.out.f8; clear hl8 hb8x))
                have HO9 := Lib.hid (HO8.out.count (c + 1) (v := (c : Int) + 1) (by omega))
                refine (currentN w.heap.size b8 pb cp (c + 1) (pt (c + 1)) _ (by omega) HO9.out.c4 HO9.out.c8 (HPC.out _ _ HO9.out.be)).mono ?_
                rintro e w9 ⟨rfl, p9, rfl⟩
                clear e8 f8 cc4 cc8 cf8
                go_wp2_with fail
                have hrel9 : Hid (LsAt ((w8.setCell ⟨b8, 0, none⟩ (.int .i64 ((c : Int) + 1))).drewN p9) 24 (b8 + 1) w8.heap.size ao8 cap8 (chO c d X out)) := Lib.hid (by
                  unfold chO
                  rw [if_pos he]
                  exact HL8.out.far (((Far.refl _ _ _).set _ _ (.inl (by show b8 < b8 + 1; omega))).drewN p9))
                have hml : Hid (M + 1 = (chO c d X out).length) := Lib.hid (by
                  unfold chO
                  rw [if_pos he, List.length_append, ← HM.out]; rfl)
                exact ⟨⟨c + 1, pt (c + 1), G, M + 1, w8.heap.size, cap8, ao8, chD c d X, chO c d X out, rfl, rfl, rfl, hM8, HO8.out.o8.lt, by simp, hml, HI', Lib.hid (fun h => absurd h (by omega)), hrel9, Lib.hid (HO9.out.drewN p9)⟩, by
                  have e1 := hcnt.out
                  have e2 := (HO9.out.drewN p9).cnt
                  show 100 - cntOf _ b8 < 100 - cntOf _ b8
                  rw [e1, e2]
                  omega⟩
              · have HIS := Lib.hid (fun W (h8 : W.cell? ⟨b8, 0, none⟩ = some (.int .i64 (c : Nat))) => isDashN b8 c W (by omega) he h8)
                have hob := HO.out.o8.lt
                have hbw : ¬ b8 = wr.heap.size := by omega
                have hsz : (wr.setCell ⟨b8, 0, none⟩ (.int .i64 ((c : Int) + 1))).heap.size = wr.heap.size := by simp
                have HSZ := Lib.hid hsz
                clear hsz
                go_wp2_with fail
                refine (HMI.out _).mono ?_
                rintro e wr ⟨rfl, rfl⟩
                go_wp2_with fail
                refine (HSC.out _).mono ?_
                rintro e wr ⟨rfl, rfl⟩
                go_wp2_with fail
                refine (HPL.out _).mono ?_
                rintro e wr ⟨rfl, rfl⟩
                go_wp2_with fail
                refine (HIS.out _ cc8).mono ?_
                rintro e wr ⟨rfl, rfl⟩
                go_wp2_with fail
                have HO9 := Lib.hid ((HO.out.count (c + 1) (v := (c : Int) + 1) (by omega)).below (Below.alloc (Below.refl _ _) (Nat.le_refl _) (.cells #[.complex .f32 X.1 X.2] 30)))
                refine (currentN w.heap.size b8 pb cp (c + 1) (pt (c + 1)) _ (by omega) HO9.out.c4 HO9.out.c8 (HPC.out _ _ HO9.out.be)).mono ?_
                rintro e w9 ⟨rfl, p9, rfl⟩
                clear cc4 cc8 cf8
                go_wp2_with fail
                have hrel9 : Hid (LsAt (((wr.setCell ⟨b8, 0, none⟩ (.int .i64 ((c : Int) + 1))).alloc (.cells #[.complex .f32 X.1 X.2] 30)).drewN p9) 24 (b8 + 1) top ao capo (chO c d X out)) := Lib.hid (by
                  unfold chO
                  rw [if_neg he]
                  exact HL.out.far ((((Far.refl _ _ _).set _ _ (.inl (by show b8 < b8 + 1; omega))).alloc _ (by rw [HSZ.out]; exact ht2)).drewN p9))
                have hml : Hid (M = (chO c d X out).length) := Lib.hid (by
                  unfold chO
                  rw [if_neg he]; exact HM.out)
                have hdv9 : Hid (DashV (((wr.setCell ⟨b8, 0, none⟩ (.int .i64 ((c : Int) + 1))).alloc (.cells #[.complex .f32 X.1 X.2] 30)).drewN p9) 30 top (c + 1) (chD c d X) (.slice (some ⟨wr.heap.size, 0, none⟩) 1 1)) := Lib.hid (by
                  unfold chD
                  rw [if_neg he]
                  have := DashV.start (wr.setCell ⟨b8, 0, none⟩ (.int .i64 ((c : Int) + 1))) 30 top (c + 1) X p9 (by rw [HSZ.out]; exact ht2)
                  rw [HSZ.out] at this
                  exact this)
                exact ⟨⟨c + 1, pt (c + 1), G, M, top, capo, ao, chD c d X, chO c d X out, rfl, rfl, rfl, hM, ht1, by simp; omega, hml, HI', hdv9, hrel9, Lib.hid (HO9.out.drewN p9)⟩, by
                  have e1 := hcnt.out
                  have e2 := (HO9.out.drewN p9).cnt
                  show 100 - cntOf _ b8 < 100 - cntOf _ b8
                  rw [e1, e2]
                  omega⟩
            · obtain ⟨n1, hI'⟩ := HA.out.turn HI.out hJn (by rw [eL]; exact hgt)
              rw [eL, ← HJ.out, ← HQQ.out] at hI'
              rw [eL] at n1
              rw [decide_eq_false hgt] at hgr
              obtain ⟨m2, d2⟩ := run_fopN n1
              have HI' := Lib.hid hI'
              clear hcb hsub eL HI n1 hrN hJn hI'
              have hJ' : J + 1 ≤ n := by omega
              by_cases he : c % 2 = 0
              · obtain ⟨gd, cd, hdv, hgd, hrow⟩ := HV.out he
                have HRow := Lib.hid hrow
                obtain ⟨m, hm⟩ : ∃ m, m = d.length := ⟨_, rfl⟩
                rw [← hm] at hdv HRow
                subst hdv
                have hmd : m ≤ 60 := by rw [hm]; exact hdl.out he
                have HMD := Lib.hid hm
                have HIS := Lib.hid (fun W (h8 : W.cell? ⟨b8, 0, none⟩ = some (.int .i64 (c : Nat))) => isDashY b8 c W (by omega) he h8)
                have hgdl := HRow.out.lt
                have hb8gd : b8 < gd := by omega
                clear hm hrow
                go_wp2_with fail
                refine (HIS.out _ cc8).mono ?_
                rintro e wr ⟨rfl, rfl⟩
                go_wp2_with (first
                  | (at_builtin; refine wpList_app2 rfl _ _ _ rfl 30 (.complex .f32 0 0) 1 8 Try.underlying24 infoCx rfl (by decide) _ #[.complex .f32 Q.1 Q.2] 30 rfl (by simp [Value.oneCell']) _ gd cd m _ rfl rfl rfl HRow.out (by omega) (by decide) ?_; intro b6 cap6 w6 hr6 hbb6 hgr6; have HR6 := Lib.hid hr6; have HB6 := Lib.hid hbb6; have HO6 := Lib.hid (HO.out.grew hgr6 hb8gd); have HL6 := Lib.hid (HL.out.far (hgr6.far (lo := b8 + 1) (hi := top) ht2 (.inl hgd))); have hz6 := hgr6.size; clear hr6 hbb6 hgr6))
                have hdv9 : Hid (DashV w6 30 top c (tuD c d Q) (.slice (some ⟨b6, 0, none⟩) (m + 1) cap6)) := Lib.hid (fun _ => ⟨b6, cap6, by
                  unfold tuD
                  rw [if_pos he, List.length_append, ← HMD.out]; rfl, by have := HB6.out; omega, by
                  unfold tuD
                  rw [if_pos he, List.length_append, ← HMD.out, List.map_append]; exact HR6.out⟩)
                exact ⟨⟨J, c, _, M, top, capo, ao, tuD c d Q, out, hJ', by go_num, rfl, rfl, hM, ht1, by omega, HM, HI', hdv9, HL6, HO6⟩, by simp [intOf]; omega⟩
              · have HIS := Lib.hid (fun W (h8 : W.cell? ⟨b8, 0, none⟩ = some (.int .i64 (c : Nat))) => isDashN b8 c W (by omega) he h8)
                go_wp2_with fail
                refine (HIS.out _ cc8).mono ?_
                rintro e wr ⟨rfl, rfl⟩
                go_wp2_with fail
                exact ⟨⟨J, c, _, M, top, capo, ao, tuD c d Q, out, hJ', by go_num, rfl, rfl, hM, ht1, ht2, HM, HI', Lib.hid (fun h => absurd h he), HL, HO⟩, by simp [intOf]; omega⟩
        · have J1 : ¬ (J : Int) < (n : Int) := by omega
          have hjn : j + 1 = xs.length := by have := HJ.out; have := HN.out; omega
          have cc8 := HO.out.c8
          have M0 : (0 : Int) ≤ (M : Int) := by omega
          have M1 : (M : Int) ≤ 30 := by omega
          have hxj : xs.length - 1 = j := by omega
          have HXJ := Lib.hid hxj
          clear hJ kJ hxj
          by_cases he : c % 2 = 0
          · have hd2 := HA.out.fin HI.out hjn he
            have hd60 := (HA.out.cb HI.out).2.2.1 he
            have hdo := HA.out.okd HI.out he
            have hoo := HA.out.oko HI.out
            obtain ⟨gd, cd, hdv, hgd, hrow⟩ := HV.out he
            have HRow := Lib.hid hrow
            obtain ⟨m, hm⟩ : ∃ m, m = d.length := ⟨_, rfl⟩
            rw [← hm] at hdv HRow hd2 hd60
            subst hdv
            have HMD := Lib.hid hm
            have m2 : (1 : Int) < (m : Int) := by omega
            have HIS := Lib.hid (fun W (h8 : W.cell? ⟨b8, 0, none⟩ = some (.int .i64 (c : Nat))) => isDashY b8 c W (by omega) he h8)
            have hfo : finO c d out = out ++ [d] := by unfold finO; rw [if_pos he]
            have HFO := Lib.hid hfo
            have HFL := Lib.hid (show (finO c d out).length = M + 1 by rw [hfo, List.length_append, ← HM.out]; rfl)
            have HCO := Lib.hid (fun i (hi : i < M + 1) => (by
              by_cases e : i < out.length
              · rw [lpA out d e]; exact hoo i e
              · have : i = out.length := by have := HM.out; omega
                subst this
                rw [lpZ]; exact ⟨by omega, hdo⟩ : (lpAt (out ++ [d]) i).length ≤ 1000 ∧ (lpAt (out ++ [d]) i).all okPt = true))
            have hgdl := HRow.out.lt
            have hb8gd : b8 < gd := by omega
            have M2 : (M : Int) + 1 ≤ 31 := by omega
            clear hm hrow hfo hdo hoo hjn
            go_wp2_with fail
            refine (HIS.out _ cc8).mono ?_
            rintro e wr ⟨rfl, rfl⟩
            go_wp2_with (first
              | (at_builtin; refine wpList_appL rfl _ _ _ rfl 24 (.slice none 0 0) 24 Try.underlying31 infoSl rfl (by decide) wr (b8 + 1) top ao capo M out gd cd m _ d rfl HM.out rfl rfl HL.out (OwnC1.row HRow.out HMD.out) HMD.out hgd ht1 HRow.out.lt ht2 (by have := HM.out; omega) ?_; intro ao8 cap8 w8 hl8 hb8x hz8; have HL8 := Lib.hid hl8; have HO8 := Lib.hid (HO.out.base (Nat.lt_succ_self _) hb8x); clear hl8 hb8x))
            refine (containsL (b8 + 1) w8.heap.size ao8 cap8 (M + 1) (out ++ [d]) (by rw [← HFO.out]; exact HFL.out) (by omega) HCO.out w8 HL8.out.slL).mono ?_
            rintro e w9 ⟨rfl, p9, rfl⟩
            go_wp2_with fail
            go_ret2
            exact ⟨⟨ao8, cap8, c, 0, r, d, out, by rw [HFL.out]; rfl, by rw [HXJ.out]; exact HI.out, by rw [HFO.out]; exact (HL8.out.low (by omega)).far ((Far.refl _ _ _).drewN p9)⟩, HO8.out.be.trans (below_dr (Below.refl _ _) p9 |>.mono HO8.out.be.size)⟩
          · have hoo := HA.out.oko HI.out
            have HIS := Lib.hid (fun W (h8 : W.cell? ⟨b8, 0, none⟩ = some (.int .i64 (c : Nat))) => isDashN b8 c W (by omega) he h8)
            have hfo : finO c d out = out := by unfold finO; rw [if_neg he]
            have HFO := Lib.hid hfo
            have HFL := Lib.hid (show (finO c d out).length = M by rw [hfo, ← HM.out])
            have HCO := Lib.hid (fun i (hi : i < M) => hoo i (by rw [← HM.out]; exact hi))
            clear hfo hoo hjn
            go_wp2_with fail
            refine (HIS.out _ cc8).mono ?_
            rintro e wr ⟨rfl, rfl⟩
            go_wp2_with fail
            refine (containsL (b8 + 1) top ao capo M out HM.out.symm (by omega) HCO.out wr HL.out.slL).mono ?_
            rintro e w9 ⟨rfl, p9, rfl⟩
            go_wp2_with fail
            go_ret2
            exact ⟨⟨ao, capo, c, 0, r, d, out, by rw [HFL.out]; rfl, by rw [HXJ.out]; exact HI.out, by rw [HFO.out]; exact ((HL.out.low (by omega)).mono ht2).far ((Far.refl _ _ _).drewN p9)⟩, HO.out.be.trans (below_dr (Below.refl _ _) p9 |>.mono HO.out.be.size)⟩
end Go.Proofs.Ytodkhkphagcfiaa

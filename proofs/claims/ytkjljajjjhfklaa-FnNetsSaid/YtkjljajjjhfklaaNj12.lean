/- Contracts: EdgesOfNet and BordersOfNet, both the reference's and the program's. Contracts: FacetShared, the program's and the reference's. Nets, the law: the source of draws, the law's small functions. (Pulled out of other templates.) -/
import Derived.Test.YtkjljajjjhfklaaNj11
import Derived.Test.YtkjljajjjhfklaaNj07
import Derived.Test.YtkjljajjjhfklaaNj09
import Derived.Test.YtkjljajjjhfklaaNj04
import Derived.Test.YtkjljajjjhfklaaNj03
import Derived.Laws.Bits64b
import Derived.Deep.RegionLaw
import Derived.Deep.RegionHeld3
import Derived.Deep.Cut
import Derived.Deep.CutRange
import Derived.StillTailTactics
import Derived.Deep.QuietTactic
import Derived.BigQuiet
import Derived.OwnWalk
namespace Go.Proofs.Ytkjljajjjhfklaa
open Go.RowKit Go.Fl
noncomputable def okN (ps : List Sp) (fs : List (List Int)) : Bool := dec (OkNet ps fs (colA fs) (colB fs))
noncomputable def prX (bo : Bool) (ps : List Sp) (fs : List (List Int)) : List Int := if okN ps fs then prL bo fs else []
theorem prX_no {bo : Bool} {ps : List Sp} {fs : List (List Int)} (h : okN ps fs = false) : prX bo ps fs = [] := by simp [prX, h]
theorem prX_yes {bo : Bool} {ps : List Sp} {fs : List (List Int)} (h : okN ps fs = true) : prX bo ps fs = prL bo fs := by simp [prX, h]
theorem okN_net {ps : List Sp} {fs : List (List Int)} (h : okN ps fs = true) : OkNet ps fs (colA fs) (colB fs) := by
  by_cases q : OkNet ps fs (colA fs) (colB fs)
  · exact q
  · unfold okN at h; rw [dec_no q] at h; cases h
theorem prX_len {bo : Bool} {ps : List Sp} {fs : List (List Int)} : (prX bo ps fs).length ≤ 1048576 := by
  cases h : okN ps fs with
  | false => rw [prX_no h]; simp
  | true =>
    rw [prX_yes h]
    have hok := okN_net h
    have h1 := prTo_len (fun s => !bo || decide (backAt (colA fs) (colB fs) s < 0)) (colA fs) (colB fs) (firsts (colA fs) (colB fs) (sumTo fs fs.length)) (firsts (colA fs) (colB fs) (sumTo fs fs.length)).length
    have h2 := firsts_lenA fs
    have h3 : ∀ j, j ≤ fs.length → sumTo fs j ≤ j * 8 := by
      intro j
      induction j with
      | zero => intro _; simp [sumTo]
      | succ j ih =>
        intro hj
        have := ih (by omega)
        have := (hok.facets j (by omega)).2.1
        simp only [sumTo]; omega
    have := h3 fs.length (Nat.le_refl _)
    have := hok.f256
    unfold prL
    omega

/-- the program's list of pairs is the reference's -/
theorem prL_edges (fs : List (List Int)) : prTo (fun _ => true) (colA fs) (colB fs) (firsts (colA fs) (colB fs) (sumTo fs fs.length)) (firsts (colA fs) (colB fs) (sumTo fs fs.length)).length = prL false fs := prTo_congr _ fun _ _ => rfl
theorem prL_borders {fs : List (List Int)} (h : SideOk fs) : prTo (fun s => decide (secF (colA fs) (colB fs) (colF fs) (sumTo fs fs.length) s < 0)) (colA fs) (colB fs) (firsts (colA fs) (colB fs) (sumTo fs fs.length)) (firsts (colA fs) (colB fs) (sumTo fs fs.length)).length = prL true fs :=
  prTo_congr _ fun i _ => by
    show _ = (!true || decide _)
    rw [secF_neg (show (colA fs).length = sumTo fs fs.length from colTo_len _ _ _) h.posF]; simp
/-- a row of edges, read at an edge -/
theorem edRow {w : World} {b cap : Nat} {A B F : List Int} {t : Nat} (h : ORow w 64 4 b cap (firsts A B t).length ((edL A B F t).map (Value.int .i64))) {k : Nat} (hk : k < (firsts A B t).length) (r : Nat) (hr : r < 4) :
    w.cell? ⟨b, k * 4 + r, none⟩ = some (.int .i64 (edP A B F t ((firsts A B t).getD k 0) r)) := by
  rw [h.cell _ (by omega)]
  have hq : k * 4 + r < (firsts A B t).length * 4 := by omega
  have e1 : (k * 4 + r) / 4 = k := by omega
  have e2 : (k * 4 + r) % 4 = r := by omega
  simp [edL, hq, e1, e2]

set_option maxHeartbeats 2000000 in
set_option maxRecDepth 100000 in
theorem edgesOfB (lo hi : Nat) (sa fa : Option Addr) (sc fc : Nat) (ps : List Sp) (fs : List (List Int)) (hp : ps.length ≤ 1048576) (hn : fs.length ≤ 1048576) (hsh : ∀ i, i < fs.length → (fAt fs i).length ≤ 1048576) (w : World)
    (hs : NetAt w lo hi sa fa ps fs) (hca : SlC w lo hi fa fs) (hh : hi ≤ w.heap.size) :
    Calls Try.prog 6 #[netV sa fa ps.length sc fs.length fc] w (RetI (prX false ps fs) (okN ps fs) w) := by
  have A0 : OwnC (w.alloc (.cells #[.slice sa ps.length sc, .slice fa fs.length fc] 27)) w.heap.size #[.slice sa ps.length sc, .slice fa fs.length fc] 27 := OwnC.new rfl
  have IS := Lib.hid (validNet lo hi sa fa sc fc ps fs hp hn hsh (w.alloc (.cells #[.slice sa ps.length sc, .slice fa fs.length fc] 27)) (hs.far ((Far.refl _ _ _).alloc _ hh)) (hca.far ((Far.refl _ _ _).alloc _ hh)) (by simp; omega))
  have HS := Lib.hid hs
  have HSH := Lib.hid hsh
  have HA0 := Lib.hid A0
  clear hs hsh A0 hca
  unfold netV at *
  cases hv : okN ps fs
  · have HO := Lib.hid hv
    have HV : Hid (dec (OkNet ps fs (colA fs) (colB fs)) = false) := Lib.hid hv
    clear hv
    go_enter Try.func6, Try.ntmps6
    go_wp2_with (go_at_call 26; refine IS.out.mono ?_; rintro e w3 ⟨rfl, hb3⟩; rw [HV.out])
    go_ret2
    exact RetI.no (prX_no HO.out) (Below.trans (by (repeat (first | exact Below.refl _ _ | assumption | refine below_dr ?_ _ | refine Below.alloc ?_ (by first | omega | (simp; done) | (simp; omega)) _ | refine Below.setCell ?_ (by first | omega | (simp; done) | (simp; omega)) _ | refine Below.trans ?_ (Below.mono (by assumption) (by first | omega | (simp; done) | (simp; omega)))))) (hb3.mono (by simp)))
  · have HO := Lib.hid hv
    have HV : Hid (dec (OkNet ps fs (colA fs) (colB fs)) = true) := Lib.hid hv
    have HOK := Lib.hid (OkNet.sideOk (okN_net hv))
    clear hv
    go_enter Try.func6, Try.ntmps6
    go_wp2_with (first | (go_at_call 26; refine IS.out.mono ?_; rintro e w3 ⟨rfl, hb3⟩; rw [HV.out]; have A1 := HA0.out.below hb3 (by first | omega | (simp; done) | (simp; omega)); have B1 := A1.alloc (.cells #[] 2); have q0 := B1.cell 0; have q1 := B1.cell 1; simp at q0 q1))
    have z3 := hb3.size
    simp at z3
    refine (edgesI lo hi sa fa ps.length sc fc fs hn HSH.out HOK.out _ (HS.out.facets.far ((((Far.refl _ _ _).alloc _ hh).trans (Far.below hb3 (by first | omega | (simp; done) | (simp; omega)))).alloc _ (by omega))) (by simp; omega)).mono ?_
    rintro e w4 ⟨eb, ec, rfl, hE, zE, hb4⟩
    have hb5 : Below w.heap.size w w3 := by
      have := hb3.mono (B' := w.heap.size) (by simp)
      (repeat (first | exact Below.refl _ _ | assumption | refine below_dr ?_ _ | refine Below.alloc ?_ (by first | omega | (simp; done) | (simp; omega)) _ | refine Below.setCell ?_ (by first | omega | (simp; done) | (simp; omega)) _ | refine Below.trans ?_ (Below.mono (by assumption) (by first | omega | (simp; done) | (simp; omega)))))
    have HB4 := Lib.hid ((hb5.alloc (by omega) (.cells #[] 2)).trans (hb4.mono (by simp; omega)))
    have z4 := hb4.size
    simp at z4 zE
    have hrow : ORow (w3.alloc (.cells #[] 2)) 2 1 w3.heap.size 0 0 [] := ORow.new w3 _ _
    have HR0 := Lib.hid (hrow.below hb4 (by simp))
    have hlE := hE.lt
    have HE := Lib.hid hE
    have HF := Lib.hid HOK.out.few
    have hfl := firsts_lenA fs
    have hPL : Hid (prTo (fun _ => true) (colA fs) (colB fs) (firsts (colA fs) (colB fs) (sumTo fs fs.length)) (firsts (colA fs) (colB fs) (sumTo fs fs.length)).length = prX false ps fs) := Lib.hid ((prL_edges fs).trans (prX_yes HO.out).symm)
    have hfew := HOK.out.few
    have hpl := prTo_len (fun _ => true) (colA fs) (colB fs) (firsts (colA fs) (colB fs) (sumTo fs fs.length))
    have HPLEN := Lib.hid hpl
    have HER : Hid (∀ k r, k < (firsts (colA fs) (colB fs) (sumTo fs fs.length)).length → r < 4 → w4.cell? ⟨eb, k * 4 + r, none⟩ = some (.int .i64 (edP (colA fs) (colB fs) (colF fs) (sumTo fs fs.length) ((firsts (colA fs) (colB fs) (sumTo fs fs.length)).getD k 0) r))) := fun k r h1 h2 => edRow HE.out h1 r h2
    clear hb3 hb4 hb5 hrow hE HE A1 B1 q0 q1 hpl
    generalize firsts (colA fs) (colB fs) (sumTo fs fs.length) = L at *
    generalize sumTo fs fs.length = m at *
    go_wp2_with fail
    go_loopw [4, 14] (fun out i wr => ∃ k b cap : Nat, k ≤ L.length ∧ i = .int .i64 k ∧ out = .slice (some ⟨b, 0, none⟩) (prTo (fun _ => true) (colA fs) (colB fs) L k).length cap ∧ Hid (ORow wr 2 1 b cap (prTo (fun _ => true) (colA fs) (colB fs) L k).length ((prTo (fun _ => true) (colA fs) (colB fs) L k).map (Value.int .i64))) ∧ w.heap.size ≤ b ∧ b ≠ eb ∧ Hid (Far eb (eb + 1) w4 wr) ∧ Hid (Below w.heap.size w wr) ∧ eb < wr.heap.size) (fun _ i _ => L.length - (intOf i).toNat)
    case atStart => exact ⟨0, w3.heap.size, 0, by omega, rfl, rfl, HR0, by omega, by omega, Far.refl _ _ _, HB4, hlE⟩
    case round =>
      clear HR0 HB4
      obtain ⟨k, b, cap, hk, rfl, rfl, HR, hbb, hbe, HFA, HW, hez⟩ := hrel
      by_cases hlt : k < L.length
      · have e0 : wr.cell? ⟨eb, k * 4, none⟩ = some (.int .i64 (iAt (colA fs) (L.getD k 0))) := (HFA.out.cell (Nat.le_refl _) (Nat.lt_succ_self _)).trans (HER.out k 0 hlt (by omega))
        have e1 : wr.cell? ⟨eb, k * 4 + 1, none⟩ = some (.int .i64 (iAt (colB fs) (L.getD k 0))) := (HFA.out.cell (Nat.le_refl _) (Nat.lt_succ_self _)).trans (HER.out k 1 hlt (by omega))
        have e2 : wr.cell? ⟨eb, k * 4 + 2, none⟩ = some (.int .i64 (iAt (colF fs) (L.getD k 0))) := (HFA.out.cell (Nat.le_refl _) (Nat.lt_succ_self _)).trans (HER.out k 2 hlt (by omega))
        have e3 : wr.cell? ⟨eb, k * 4 + 3, none⟩ = some (.int .i64 (secF (colA fs) (colB fs) (colF fs) m (L.getD k 0))) := (HFA.out.cell (Nat.le_refl _) (Nat.lt_succ_self _)).trans (HER.out k 3 hlt (by omega))
        have hlen := HPLEN.out k
        have HY : Hid ((fun _ => true) (L.getD k 0) = true → prTo (fun _ => true) (colA fs) (colB fs) L (k + 1) = prTo (fun _ => true) (colA fs) (colB fs) L k ++ [iAt (colA fs) (L.getD k 0), iAt (colB fs) (L.getD k 0)]) := fun h => prTo_yes h
        have HNo : Hid ((fun _ => true) (L.getD k 0) = false → prTo (fun _ => true) (colA fs) (colB fs) L (k + 1) = prTo (fun _ => true) (colA fs) (colB fs) L k) := fun h => prTo_no h
        generalize L.getD k 0 = s at *
        have k0 : (0 : Int) ≤ (k : Int) := by omega
        have k1 : (k : Int) < (L.length : Int) := by omega
        have HW1 := Lib.hid (HW.out.alloc HW.out.size (.cells #[.int .i64 (iAt (colA fs) s), .int .i64 (iAt (colB fs) s), .int .i64 (iAt (colF fs) s), .int .i64 (secF (colA fs) (colB fs) (colF fs) m s)] 64))
        have HR1 := Lib.hid (HR.out.far (lo := 0) (hi := wr.heap.size) ((Far.refl _ _ _).alloc (.cells #[.int .i64 (iAt (colA fs) s), .int .i64 (iAt (colB fs) s), .int .i64 (iAt (colF fs) s), .int .i64 (secF (colA fs) (colB fs) (colF fs) m s)] 64) (Nat.le_refl _)) (Nat.zero_le _) HR.out.lt)
        have HF1 := Lib.hid (HFA.out.alloc (.cells #[.int .i64 (iAt (colA fs) s), .int .i64 (iAt (colB fs) s), .int .i64 (iAt (colF fs) s), .int .i64 (secF (colA fs) (colB fs) (colF fs) m s)] 64) hez)
        have HP := Lib.hid (HY.out rfl)
        go_wp2_with (at_builtin; refine wpList_appN rfl _ _ _ rfl 2 (.int .i64 0) 1 8 Try.underlying29 infoInt rfl (by decide) _ #[.int .i64 (iAt (colA fs) s), .int .i64 (iAt (colB fs) s)] 2 2 rfl (by simp [Value.oneCell']) _ b cap _ _ rfl rfl (by simp) (by omega) (by omega) HR1.out (by omega) (by decide) ?_; intro b4 cap4 w4 hr4 hg4 hgr4)
        have hz2 := HW.out.size
        have hg5 := hgr4.size
        simp at hg5 hg4
        go_roundw
        case rel =>
          refine ⟨k + 1, b4, cap4, by omega, by go_num, by rw [HP.out]; simp, ?_, by omega, by omega, HF1.out.trans (hgr4.far (by simp; omega) (by omega)), HW1.out.trans (hgr4.below hbb (by simp; omega)), by omega⟩
          rw [HP.out]
          have := hr4
          simp only [List.map_append, List.map_cons, List.map_nil, List.length_append, List.length_cons, List.length_nil]
          exact this
        case measure => simp [intOf]; omega
      · have hkl : k = L.length := by omega
        subst hkl
        go_wp2_with fail
        go_ret2
        rw [← hPL.out]
        exact RetI.yes HR.out hbb HW.out

set_option maxHeartbeats 2000000 in
set_option maxRecDepth 100000 in
theorem bordersOfB (lo hi : Nat) (sa fa : Option Addr) (sc fc : Nat) (ps : List Sp) (fs : List (List Int)) (hp : ps.length ≤ 1048576) (hn : fs.length ≤ 1048576) (hsh : ∀ i, i < fs.length → (fAt fs i).length ≤ 1048576) (w : World)
    (hs : NetAt w lo hi sa fa ps fs) (hca : SlC w lo hi fa fs) (hh : hi ≤ w.heap.size) :
    Calls Try.prog 7 #[netV sa fa ps.length sc fs.length fc] w (RetI (prX true ps fs) (okN ps fs) w) := by
  have A0 : OwnC (w.alloc (.cells #[.slice sa ps.length sc, .slice fa fs.length fc] 27)) w.heap.size #[.slice sa ps.length sc, .slice fa fs.length fc] 27 := OwnC.new rfl
  have IS := Lib.hid (validNet lo hi sa fa sc fc ps fs hp hn hsh (w.alloc (.cells #[.slice sa ps.length sc, .slice fa fs.length fc] 27)) (hs.far ((Far.refl _ _ _).alloc _ hh)) (hca.far ((Far.refl _ _ _).alloc _ hh)) (by simp; omega))
  have HS := Lib.hid hs
  have HSH := Lib.hid hsh
  have HA0 := Lib.hid A0
  clear hs hsh A0 hca
  unfold netV at *
  cases hv : okN ps fs
  · have HO := Lib.hid hv
    have HV : Hid (dec (OkNet ps fs (colA fs) (colB fs)) = false) := Lib.hid hv
    clear hv
    go_enter Try.func7, Try.ntmps7
    go_wp2_with (go_at_call 26; refine IS.out.mono ?_; rintro e w3 ⟨rfl, hb3⟩; rw [HV.out])
    go_ret2
    exact RetI.no (prX_no HO.out) (Below.trans (by (repeat (first | exact Below.refl _ _ | assumption | refine below_dr ?_ _ | refine Below.alloc ?_ (by first | omega | (simp; done) | (simp; omega)) _ | refine Below.setCell ?_ (by first | omega | (simp; done) | (simp; omega)) _ | refine Below.trans ?_ (Below.mono (by assumption) (by first | omega | (simp; done) | (simp; omega)))))) (hb3.mono (by simp)))
  · have HO := Lib.hid hv
    have HV : Hid (dec (OkNet ps fs (colA fs) (colB fs)) = true) := Lib.hid hv
    have HOK := Lib.hid (OkNet.sideOk (okN_net hv))
    clear hv
    go_enter Try.func7, Try.ntmps7
    go_wp2_with (first | (go_at_call 26; refine IS.out.mono ?_; rintro e w3 ⟨rfl, hb3⟩; rw [HV.out]; have A1 := HA0.out.below hb3 (by first | omega | (simp; done) | (simp; omega)); have B1 := A1.alloc (.cells #[] 2); have q0 := B1.cell 0; have q1 := B1.cell 1; simp at q0 q1))
    have z3 := hb3.size
    simp at z3
    refine (edgesI lo hi sa fa ps.length sc fc fs hn HSH.out HOK.out _ (HS.out.facets.far ((((Far.refl _ _ _).alloc _ hh).trans (Far.below hb3 (by first | omega | (simp; done) | (simp; omega)))).alloc _ (by omega))) (by simp; omega)).mono ?_
    rintro e w4 ⟨eb, ec, rfl, hE, zE, hb4⟩
    have hb5 : Below w.heap.size w w3 := by
      have := hb3.mono (B' := w.heap.size) (by simp)
      (repeat (first | exact Below.refl _ _ | assumption | refine below_dr ?_ _ | refine Below.alloc ?_ (by first | omega | (simp; done) | (simp; omega)) _ | refine Below.setCell ?_ (by first | omega | (simp; done) | (simp; omega)) _ | refine Below.trans ?_ (Below.mono (by assumption) (by first | omega | (simp; done) | (simp; omega)))))
    have HB4 := Lib.hid ((hb5.alloc (by omega) (.cells #[] 2)).trans (hb4.mono (by simp; omega)))
    have z4 := hb4.size
    simp at z4 zE
    have hrow : ORow (w3.alloc (.cells #[] 2)) 2 1 w3.heap.size 0 0 [] := ORow.new w3 _ _
    have HR0 := Lib.hid (hrow.below hb4 (by simp))
    have hlE := hE.lt
    have HE := Lib.hid hE
    have HF := Lib.hid HOK.out.few
    have hfl := firsts_lenA fs
    have hPL : Hid (prTo (fun s => decide (secF (colA fs) (colB fs) (colF fs) (sumTo fs fs.length) s < 0)) (colA fs) (colB fs) (firsts (colA fs) (colB fs) (sumTo fs fs.length)) (firsts (colA fs) (colB fs) (sumTo fs fs.length)).length = prX true ps fs) := Lib.hid ((prL_borders HOK.out).trans (prX_yes HO.out).symm)
    have hfew := HOK.out.few
    have hpl := prTo_len (fun s => decide (secF (colA fs) (colB fs) (colF fs) (sumTo fs fs.length) s < 0)) (colA fs) (colB fs) (firsts (colA fs) (colB fs) (sumTo fs fs.length))
    have HPLEN := Lib.hid hpl
    have HER : Hid (∀ k r, k < (firsts (colA fs) (colB fs) (sumTo fs fs.length)).length → r < 4 → w4.cell? ⟨eb, k * 4 + r, none⟩ = some (.int .i64 (edP (colA fs) (colB fs) (colF fs) (sumTo fs fs.length) ((firsts (colA fs) (colB fs) (sumTo fs fs.length)).getD k 0) r))) := fun k r h1 h2 => edRow HE.out h1 r h2
    clear hb3 hb4 hb5 hrow hE HE A1 B1 q0 q1 hpl
    generalize firsts (colA fs) (colB fs) (sumTo fs fs.length) = L at *
    generalize sumTo fs fs.length = m at *
    go_wp2_with fail
    go_loopw [4, 14] (fun out i wr => ∃ k b cap : Nat, k ≤ L.length ∧ i = .int .i64 k ∧ out = .slice (some ⟨b, 0, none⟩) (prTo (fun s => decide (secF (colA fs) (colB fs) (colF fs) m s < 0)) (colA fs) (colB fs) L k).length cap ∧ Hid (ORow wr 2 1 b cap (prTo (fun s => decide (secF (colA fs) (colB fs) (colF fs) m s < 0)) (colA fs) (colB fs) L k).length ((prTo (fun s => decide (secF (colA fs) (colB fs) (colF fs) m s < 0)) (colA fs) (colB fs) L k).map (Value.int .i64))) ∧ w.heap.size ≤ b ∧ b ≠ eb ∧ Hid (Far eb (eb + 1) w4 wr) ∧ Hid (Below w.heap.size w wr) ∧ eb < wr.heap.size) (fun _ i _ => L.length - (intOf i).toNat)
    case atStart => exact ⟨0, w3.heap.size, 0, by omega, rfl, rfl, HR0, by omega, by omega, Far.refl _ _ _, HB4, hlE⟩
    case round =>
      clear HR0 HB4
      obtain ⟨k, b, cap, hk, rfl, rfl, HR, hbb, hbe, HFA, HW, hez⟩ := hrel
      by_cases hlt : k < L.length
      · have e0 : wr.cell? ⟨eb, k * 4, none⟩ = some (.int .i64 (iAt (colA fs) (L.getD k 0))) := (HFA.out.cell (Nat.le_refl _) (Nat.lt_succ_self _)).trans (HER.out k 0 hlt (by omega))
        have e1 : wr.cell? ⟨eb, k * 4 + 1, none⟩ = some (.int .i64 (iAt (colB fs) (L.getD k 0))) := (HFA.out.cell (Nat.le_refl _) (Nat.lt_succ_self _)).trans (HER.out k 1 hlt (by omega))
        have e2 : wr.cell? ⟨eb, k * 4 + 2, none⟩ = some (.int .i64 (iAt (colF fs) (L.getD k 0))) := (HFA.out.cell (Nat.le_refl _) (Nat.lt_succ_self _)).trans (HER.out k 2 hlt (by omega))
        have e3 : wr.cell? ⟨eb, k * 4 + 3, none⟩ = some (.int .i64 (secF (colA fs) (colB fs) (colF fs) m (L.getD k 0))) := (HFA.out.cell (Nat.le_refl _) (Nat.lt_succ_self _)).trans (HER.out k 3 hlt (by omega))
        have hlen := HPLEN.out k
        have HY : Hid ((fun s => decide (secF (colA fs) (colB fs) (colF fs) m s < 0)) (L.getD k 0) = true → prTo (fun s => decide (secF (colA fs) (colB fs) (colF fs) m s < 0)) (colA fs) (colB fs) L (k + 1) = prTo (fun s => decide (secF (colA fs) (colB fs) (colF fs) m s < 0)) (colA fs) (colB fs) L k ++ [iAt (colA fs) (L.getD k 0), iAt (colB fs) (L.getD k 0)]) := fun h => prTo_yes h
        have HNo : Hid ((fun s => decide (secF (colA fs) (colB fs) (colF fs) m s < 0)) (L.getD k 0) = false → prTo (fun s => decide (secF (colA fs) (colB fs) (colF fs) m s < 0)) (colA fs) (colB fs) L (k + 1) = prTo (fun s => decide (secF (colA fs) (colB fs) (colF fs) m s < 0)) (colA fs) (colB fs) L k) := fun h => prTo_no h
        generalize L.getD k 0 = s at *
        have k0 : (0 : Int) ≤ (k : Int) := by omega
        have k1 : (k : Int) < (L.length : Int) := by omega
        have HW1 := Lib.hid (HW.out.alloc HW.out.size (.cells #[.int .i64 (iAt (colA fs) s), .int .i64 (iAt (colB fs) s), .int .i64 (iAt (colF fs) s), .int .i64 (secF (colA fs) (colB fs) (colF fs) m s)] 64))
        have HR1 := Lib.hid (HR.out.far (lo := 0) (hi := wr.heap.size) ((Far.refl _ _ _).alloc (.cells #[.int .i64 (iAt (colA fs) s), .int .i64 (iAt (colB fs) s), .int .i64 (iAt (colF fs) s), .int .i64 (secF (colA fs) (colB fs) (colF fs) m s)] 64) (Nat.le_refl _)) (Nat.zero_le _) HR.out.lt)
        have HF1 := Lib.hid (HFA.out.alloc (.cells #[.int .i64 (iAt (colA fs) s), .int .i64 (iAt (colB fs) s), .int .i64 (iAt (colF fs) s), .int .i64 (secF (colA fs) (colB fs) (colF fs) m s)] 64) hez)
        by_cases hlt0 : secF (colA fs) (colB fs) (colF fs) m s < 0
        · have HD := Lib.hid (decide_eq_true hlt0)
          have HP := Lib.hid (HY.out HD.out)
          go_wp2_with (at_builtin; refine wpList_appN rfl _ _ _ rfl 2 (.int .i64 0) 1 8 Try.underlying29 infoInt rfl (by decide) _ #[.int .i64 (iAt (colA fs) s), .int .i64 (iAt (colB fs) s)] 2 2 rfl (by simp [Value.oneCell']) _ b cap _ _ rfl rfl (by simp) (by omega) (by omega) HR1.out (by omega) (by decide) ?_; intro b4 cap4 w4 hr4 hg4 hgr4)
          have hz2 := HW.out.size
          have hg5 := hgr4.size
          simp at hg5 hg4
          go_roundw
          case rel =>
            refine ⟨k + 1, b4, cap4, by omega, by go_num, by rw [HP.out]; simp, ?_, by omega, by omega, HF1.out.trans (hgr4.far (by simp; omega) (by omega)), HW1.out.trans (hgr4.below hbb (by simp; omega)), by omega⟩
            rw [HP.out]
            have := hr4
            simp only [List.map_append, List.map_cons, List.map_nil, List.length_append, List.length_cons, List.length_nil]
            exact this
          case measure => simp [intOf]; omega
        · have HP := Lib.hid (HNo.out (decide_eq_false hlt0))
          go_wp2_with fail
          go_roundw
          case rel => exact ⟨k + 1, b, cap, by omega, by go_num, by rw [HP.out], by rw [HP.out]; exact HR1, hbb, hbe, HF1, HW1, by simp; omega⟩
          case measure => simp [intOf]; omega
      · have hkl : k = L.length := by omega
        subst hkl
        go_wp2_with fail
        go_ret2
        rw [← hPL.out]
        exact RetI.yes HR.out hbb HW.out

end Go.Proofs.Ytkjljajjjhfklaa

namespace Go.Proofs.Ytkjljajjjhfklaa
open Go.RowKit Go.Fl

theorem areWorkers (x : Int) (w : World) : Calls Try.prog 50 #[.int .i64 x] w fun e w' => e = .returned (.bool (inB x 1 8)) ∧ w' = w := by
  go_enter Try.func50, Try.ntmps50
  go_wp2_with fail
  refine (within _ _ _ _).mono ?_
  rintro e w' ⟨rfl, rfl⟩
  go_wp2_with fail
  go_ret
  exact ⟨rfl, rfl⟩

noncomputable def shOk (ps : List Sp) (fs : List (List Int)) (x : Int) : Bool := okN ps fs && inB x 1 8 && (midsTo ps fs fs.length).all finSp
noncomputable def shL (ps : List Sp) (fs : List (List Int)) (x : Int) : List Sp := if shOk ps fs x then midsTo ps fs fs.length else []
theorem shL_no {ps : List Sp} {fs : List (List Int)} {x : Int} (h : shOk ps fs x = false) : shL ps fs x = [] := by simp [shL, h]
theorem shL_yes {ps : List Sp} {fs : List (List Int)} {x : Int} (h : shOk ps fs x = true) : shL ps fs x = midsTo ps fs fs.length := by simp [shL, h]
theorem shL_len {ps : List Sp} {fs : List (List Int)} {x : Int} (hn : fs.length ≤ 1048576) : (shL ps fs x).length ≤ 1048576 := by
  unfold shL
  split
  · rw [midsTo_len]; exact hn
  · simp
theorem RetP.no {w w' : World} {ps : List Sp} {ok : Bool} (h : ps = []) (hb : Below w.heap.size w w') : RetP ps ok w (.returned (.tuple #[.slice none 0 0, .bool ok])) w' := by
  subst h
  exact ⟨⟨none, 0, rfl, OwnP.nil _ _ _⟩, hb⟩
theorem RetP.yes {w w' : World} {ps : List Sp} {e b cap n : Nat} {cs : List Value} {ok : Bool} (h : ORow w' e 3 b cap n cs) (hn : ps.length = n) (hq : SpL cs ps) (hl : w.heap.size ≤ b) (hb : Below w.heap.size w w') : RetP ps ok w (.returned (.tuple #[.slice (some ⟨b, 0, none⟩) n cap, .bool ok])) w' := by
  subst hn
  exact ⟨⟨_, cap, rfl, ⟨.inr ⟨b, rfl, hl, h.lt, h.room, h.spots hq⟩⟩⟩, hb⟩
theorem spotsB (b cap n : Nat) (ps : List Sp) (cs : List Value) (e : TypeId) (hn : ps.length = n) (hm : n ≤ 1048576) (w : World) (h : ORow w e 3 b cap n cs) (hq : SpL cs ps) :
    Calls Try.prog 67 #[.slice (some ⟨b, 0, none⟩) n cap] w fun e w' => e = .returned (.bool (ps.all finSp)) ∧ Below w.heap.size w w' := by
  subst hn
  exact areSpots b (b + 1) _ cap ps hm w (h.spots hq) h.lt
theorem ifSpots (b cap n : Nat) (ps : List Sp) (cs : List Value) (e : TypeId) (hn : ps.length = n) (hm : n ≤ 1048576) (w : World) (h : ORow w e 3 b cap n cs) (hq : SpL cs ps) :
    Calls Try.prog 51 #[.slice (some ⟨b, 0, none⟩) n cap] w fun e w' => e = .returned (.tuple #[if ps.all finSp then .slice (some ⟨b, 0, none⟩) n cap else .slice none 0 0, .bool (ps.all finSp)]) ∧ Below w.heap.size w w' := by
  have HC := Lib.hid (spotsB b cap n ps cs e hn hm w h hq)
  clear h hq
  cases hf : ps.all finSp
  all_goals
    have HF := Lib.hid hf
    clear hf
    go_enter Try.func51, Try.ntmps51
    go_wp2_with (go_at_call 67; refine HC.out.mono ?_; rintro e w3 ⟨rfl, hb3⟩; rw [HF.out])
    go_ret2
    exact ⟨rfl, hb3⟩

set_option maxHeartbeats 2000000 in
set_option maxRecDepth 100000 in
theorem sharedB (lo hi : Nat) (sa fa : Option Addr) (sc fc : Nat) (ps : List Sp) (fs : List (List Int)) (x : Int) (hp : ps.length ≤ 1048576) (hn : fs.length ≤ 1048576) (hsh : ∀ i, i < fs.length → (fAt fs i).length ≤ 1048576) (w : World)
    (hs : NetAt w lo hi sa fa ps fs) (hca : SlC w lo hi fa fs) (hh : hi ≤ w.heap.size) :
    Calls Try.prog 14 #[netV sa fa ps.length sc fs.length fc, .int .i64 x] w (RetP (shL ps fs x) (shOk ps fs x) w) := by
  have A0 : OwnC (w.alloc (.cells #[.slice sa ps.length sc, .slice fa fs.length fc] 27)) w.heap.size #[.slice sa ps.length sc, .slice fa fs.length fc] 27 := OwnC.new rfl
  have IS := Lib.hid (validNet lo hi sa fa sc fc ps fs hp hn hsh (w.alloc (.cells #[.slice sa ps.length sc, .slice fa fs.length fc] 27)) (hs.far ((Far.refl _ _ _).alloc _ hh)) (hca.far ((Far.refl _ _ _).alloc _ hh)) (by simp; omega))
  have HS := Lib.hid hs
  have HSH := Lib.hid hsh
  have HA0 := Lib.hid A0
  clear hs hsh A0 hca
  unfold netV at *
  cases hv : okN ps fs
  · have HO : Hid (shOk ps fs x = false) := Lib.hid (by simp [shOk, hv])
    have HV : Hid (dec (OkNet ps fs (colA fs) (colB fs)) = false) := Lib.hid hv
    clear hv
    go_enter Try.func14, Try.ntmps14
    go_wp2_with (go_at_call 26; refine IS.out.mono ?_; rintro e w3 ⟨rfl, hb3⟩; rw [HV.out])
    go_ret2
    rw [HO.out]
    exact RetP.no (shL_no HO.out) (Below.trans (by (repeat (first | exact Below.refl _ _ | assumption | refine below_dr ?_ _ | refine Below.alloc ?_ (by first | omega | (simp; done) | (simp; omega)) _ | refine Below.setCell ?_ (by first | omega | (simp; done) | (simp; omega)) _ | refine Below.trans ?_ (Below.mono (by assumption) (by first | omega | (simp; done) | (simp; omega)))))) (hb3.mono (by simp)))
  have HV : Hid (dec (OkNet ps fs (colA fs) (colB fs)) = true) := Lib.hid hv
  cases hi2 : inB x 1 8
  · have HO : Hid (shOk ps fs x = false) := Lib.hid (by simp [shOk, hi2])
    have HI2 := Lib.hid hi2
    clear hv hi2
    go_enter Try.func14, Try.ntmps14
    go_wp2_with (first | (go_at_call 26; refine IS.out.mono ?_; rintro e w3 ⟨rfl, hb3⟩; rw [HV.out]) | (go_at_call 50; refine (areWorkers _ _).mono ?_; rintro e w3 ⟨rfl, rfl⟩; rw [HI2.out]))
    go_ret2
    rw [HO.out]
    exact RetP.no (shL_no HO.out) (Below.trans (by (repeat (first | exact Below.refl _ _ | assumption | refine below_dr ?_ _ | refine Below.alloc ?_ (by first | omega | (simp; done) | (simp; omega)) _ | refine Below.setCell ?_ (by first | omega | (simp; done) | (simp; omega)) _ | refine Below.trans ?_ (Below.mono (by assumption) (by first | omega | (simp; done) | (simp; omega)))))) (hb3.mono (by simp)))
  have HI2 := Lib.hid hi2
  have HIN : Hid (∀ i, i < fs.length → InN ps.length (fAt fs i)) := fun i h => ((okN_net hv).facets i h).inN
  have hE : shOk ps fs x = (midsTo ps fs fs.length).all finSp := by simp [shOk, hv, hi2]
  have HML := Lib.hid (midsTo_len ps fs fs.length)
  clear hv hi2
  cases hf : (midsTo ps fs fs.length).all finSp
  all_goals
    have HO := Lib.hid (hE.trans hf)
    have HF := Lib.hid hf
    clear hE hf
    go_enter Try.func14, Try.ntmps14
    go_wp2_with (first | (go_at_call 26; refine IS.out.mono ?_; rintro e w3 ⟨rfl, hb3⟩; rw [HV.out]; have A1 := HA0.out.below hb3 (by first | omega | (simp; done) | (simp; omega)); have z3 := hb3.size; simp at z3; have HB3 : Hid (Below w.heap.size w w3) := Below.trans (by (repeat (first | exact Below.refl _ _ | assumption | refine below_dr ?_ _ | refine Below.alloc ?_ (by first | omega | (simp; done) | (simp; omega)) _ | refine Below.setCell ?_ (by first | omega | (simp; done) | (simp; omega)) _ | refine Below.trans ?_ (Below.mono (by assumption) (by first | omega | (simp; done) | (simp; omega)))))) (hb3.mono (by simp)); have q0 := A1.cell 0; have q1 := A1.cell 1; simp at q0 q1; have HC := Lib.hid (facetPoints lo hi sa fa sc fc ps fs hp hn HSH.out HIN.out w3 (HS.out.far (Far.below HB3.out hh)) (by omega)); clear A1 hb3) | (go_at_call 50; refine (areWorkers _ _).mono ?_; rintro e w3 ⟨rfl, rfl⟩; rw [HI2.out]) | (go_at_call 28; refine HC.out.mono ?_; rintro e w4 ⟨⟨b, cap, cs, rfl, hr4, hq4, hl4⟩, hb4⟩; have HR4 := Lib.hid hr4; have HQ4 := Lib.hid hq4; have HB4 := Lib.hid (HB3.out.trans (hb4.mono (by omega))); have hlt4 := hr4.lt; have HC5 := Lib.hid (ifSpots b cap fs.length _ cs _ HML.out hn w4 hr4 hq4); clear hr4 hq4 hb4) | (go_at_call 51; refine HC5.out.mono ?_; rintro e w5 ⟨rfl, hb5⟩; rw [HF.out]; simp only [if_true, Bool.false_eq_true, if_false]))
    go_ret2
  · rw [HO.out]
    exact RetP.no (shL_no HO.out) (HB4.out.trans (hb5.mono HB4.out.size))
  · rw [HO.out]
    exact RetP.yes (HR4.out.below hb5 hlt4) (by rw [shL_yes HO.out]; exact HML.out) (by rw [shL_yes HO.out]; exact HQ4.out) (by omega) (HB4.out.trans (hb5.mono HB4.out.size))
end Go.Proofs.Ytkjljajjjhfklaa

namespace Go.Fl
open Go.RowKit
theorem Only.drewN {S : Nat → Prop} {a w : World} (h : Only S a w) (n : Nat) : Only S a (w.drewN n) := ⟨h.os, h.tape, h.output, h.size, h.block, h.room⟩
theorem own_grew {w w' : World} {t b : Nat} {cs : Array Value} {T : TypeId} (h : OwnC w b cs T) (hg : Grew t w w') (hne : b ≠ t) : OwnC w' b cs T := (hg.block b h.lt hne).trans h
theorem below_grew {B t : Nat} {a w w' : World} (h : Below B a w) (hg : Grew t w w') (ht : B ≤ t) (hB : B ≤ a.heap.size) : Below B a w' := h.trans (hg.below ht (Nat.le_trans hB h.size))
theorem far_grew {w w' : World} {t lo hi : Nat} (hg : Grew t w w') (h1 : t < lo) (h2 : hi ≤ w.heap.size) : Far lo hi w w' := hg.far h2 (.inr h1)
/-- the bytes drawn from: a slice of a block below P -/
def CodeAt (w : World) (P : Nat) (a : Option Addr) (n : Nat) : Prop := 0 < n → ∃ b off, a = some ⟨b, off, none⟩ ∧ b < P ∧ ∀ i, i < n → ∃ x : Nat, w.cell? ⟨b, off + i, none⟩ = some (.int .u8 x) ∧ x ≤ 255
theorem CodeAt.far {w w' : World} {P : Nat} {a : Option Addr} {n : Nat} (h : CodeAt w P a n) (hf : Far 0 P w w') : CodeAt w' P a n := fun hp => by
  obtain ⟨b, off, rfl, hb, hc⟩ := h hp
  refine ⟨b, off, rfl, hb, fun i hi => ?_⟩
  obtain ⟨x, hx, h255⟩ := hc i hi
  exact ⟨x, (hf.cell (Nat.zero_le _) hb).trans hx, h255⟩
/-- the source at block p -/
def SrcAt (w : World) (T : TypeId) (p : Nat) (a : Option Addr) (n c m : Nat) : Prop := ∃ (at_ : Nat) (seed : Int), OwnC w p #[.slice a n c, .int .i64 at_, .int .u64 seed] T ∧ at_ ≤ m ∧ CodeAt w p a n
theorem SrcAt.mono {w : World} {T : TypeId} {p n c m m' : Nat} {a : Option Addr} (h : SrcAt w T p a n c m) (hm : m ≤ m') : SrcAt w T p a n c m' := by
  obtain ⟨x, s, h1, h2, h3⟩ := h
  exact ⟨x, s, h1, by omega, h3⟩
theorem SrcAt.far {w w' : World} {T : TypeId} {p n c m : Nat} {a : Option Addr} (h : SrcAt w T p a n c m) (hf : Far 0 (p + 1) w w') : SrcAt w' T p a n c m := by
  obtain ⟨x, s, h1, h2, h3⟩ := h
  exact ⟨x, s, (hf p (Nat.zero_le _) (Nat.lt_succ_self _)).trans h1, h2, h3.far (fun k k1 k2 => hf k k1 (by omega))⟩
end Go.Fl
namespace Go.Proofs.Ytkjljajjjhfklaa
open Go.RowKit Go.Fl

theorem mask8 (y : Int) : ∃ r : Nat, wrap64 (bits .and .u64 (IntKind.u64.wrap y / 1099511627776) 255) = (r : Int) ∧ r ≤ 255 := by
  have h1 : 0 ≤ IntKind.u64.wrap y ∧ IntKind.u64.wrap y < 18446744073709551616 := by rw [IntKind.wrap_u64]; omega
  obtain ⟨z, hz⟩ := Int.eq_ofNat_of_zero_le (show 0 ≤ IntKind.u64.wrap y / 1099511627776 by omega)
  have hz2 : z < 18446744073709551616 := by omega
  rw [hz]
  have hb := bits_and_u64_nat z 255 hz2 (by decide)
  rw [show ((255 : Nat) : Int) = 255 from rfl] at hb
  rw [hb]
  have := Nat.and_le_right (n := z) (m := 255)
  refine ⟨z &&& 255, ?_, this⟩
  unfold wrap64
  omega
set_option maxHeartbeats 1000000 in
set_option maxRecDepth 100000 in
theorem nextS (p : Nat) (a : Option Addr) (n c m : Nat) (hn : n ≤ 1048576) (hm : m ≤ 1000000) (w : World) (h : SrcAt w 103 p a n c m) :
    Calls Try.prog 80 #[.pointer (some ⟨p, 0, none⟩)] w fun e w' => (∃ r : Nat, e = .returned (.int .i64 r) ∧ r ≤ 255) ∧ SrcAt w' 103 p a n c (m + 1) ∧ Only (fun c => c = p) w w' := by
  obtain ⟨t, seed, ho, htm, hc⟩ := h
  have HO := Lib.hid ho
  have HC := Lib.hid hc
  have c0 := ho.cell 0
  have c1 := ho.cell 1
  have c2 := ho.cell 2
  have f1 := ho.free 1
  have f2 := ho.free 2
  simp at c0 c1 c2
  clear ho hc
  have t0 : (0 : Int) ≤ (t : Int) := by omega
  have t1 : (t : Int) ≤ 1000000 := by omega
  go_enter Try.func80, Try.ntmps80
  by_cases hlt : t < n
  · have hlt' : (t : Int) < (n : Int) := by omega
    obtain ⟨b, off, rfl, hb, hcc⟩ := HC.out (by omega)
    obtain ⟨x, hx, h255⟩ := hcc t hlt
    have hle : (t : Int) + 1 ≤ (n : Int) := by omega
    have hnp : ¬ b = p := by omega
    clear hcc
    go_wp2_with fail
    go_quiet (fail)
    go_wp2_with fail
    go_quiet (fail)
    go_wp2_with fail
    go_quiet (fail)
    go_wp2_with fail
    go_ret
    have hO1 := (HO.out.set 1 (.int .i64 ((t : Int) + 1))).set 2 (.int .u64 (IntKind.u64.wrap (IntKind.u64.wrap (IntKind.u64.wrap (seed * 6364136223846793005) + (x : Int)) + 1442695040888963407)))
    refine ⟨⟨x, rfl, h255⟩, ⟨t + 1, _, (hO1.congr (by simp; rfl)), by omega, ?_⟩, ?_⟩
    · exact HC.out.far (((Far.refl _ _ _).set _ _ (.inr (by simp))).set _ _ (.inr (by simp)))
    · exact ((((Only.refl (fun c => c = p) _).set p 1 _ rfl).set p 2 _ rfl).drewN _).drewN _
  · have hlt' : ¬ (t : Int) < (n : Int) := by omega
    have hle : ¬ (t : Int) + 1 ≤ (n : Int) := by omega
    go_wp2_with fail
    go_quiet (fail)
    go_wp2_with fail
    go_quiet (fail)
    go_wp2_with fail
    go_ret
    obtain ⟨r, hr, hr255⟩ := mask8 (IntKind.u64.wrap (IntKind.u64.wrap (seed * 6364136223846793005)) + 1442695040888963407)
    have hO1 := (HO.out.set 1 (.int .i64 ((t : Int) + 1))).set 2 (.int .u64 (IntKind.u64.wrap (IntKind.u64.wrap (IntKind.u64.wrap (seed * 6364136223846793005)) + 1442695040888963407)))
    refine ⟨⟨r, by rw [← hr]; rfl, hr255⟩, ⟨t + 1, _, (hO1.congr (by simp; rfl)), by omega, ?_⟩, ?_⟩
    · exact HC.out.far (((Far.refl _ _ _).set _ _ (.inr (by simp))).set _ _ (.inr (by simp)))
    · exact (((Only.refl (fun c => c = p) _).set p 1 _ rfl).set p 2 _ rfl).drewN _
set_option maxHeartbeats 1000000 in
theorem pickS (p : Nat) (a : Option Addr) (n c m k : Nat) (hn : n ≤ 1048576) (hm : m ≤ 1000000) (hk : 1 < k) (hk2 : k ≤ 200) (w : World) (h : SrcAt w 103 p a n c m) :
    Calls Try.prog 65 #[.pointer (some ⟨p, 0, none⟩), .int .i64 (k : Nat)] w fun e w' => (∃ r : Nat, e = .returned (.int .i64 r) ∧ r < k) ∧ SrcAt w' 103 p a n c (m + 1) ∧ Only (fun c => c = p) w w' := by
  have H := Lib.hid h
  clear h
  have k0 : ¬ (k : Int) ≤ 1 := by omega
  have k1 : ¬ (200 : Int) < (k : Int) := by omega
  have k2 : ¬ (k : Int) = 0 := by omega
  go_enter Try.func65, Try.ntmps65
  go_wp2_with fail
  refine (nextS p a n c m hn hm _ H.out).mono ?_
  rintro e w1 ⟨⟨r, rfl, hr⟩, hs, ho⟩
  have HS := Lib.hid hs
  have HO := Lib.hid ho
  clear hs ho
  have r0 : (0 : Int) ≤ (r : Int) := by omega
  have r1 : (r : Int) ≤ 255 := by omega
  go_wp2_with fail
  go_ret
  exact ⟨⟨r % k, rfl, Nat.mod_lt _ (by omega)⟩, HS.out, HO.out⟩
theorem r8LongNo (a b : Option Addr) (n m ca cb : Nat) (hn : n ≤ 48) (hm : m ≤ 48) (w : World) :
    Calls Try.prog 4 #[.slice a n ca, .slice b m cb] w fun e w' => e = .returned (.bool false) ∧ w' = w := by
  have h1 : ¬ (48 : Int) < (n : Int) := by omega
  have h2 : ¬ (48 : Int) < (m : Int) := by omega
  go_enter Try.func4, Try.ntmps4
  go_wp2_with fail
  go_ret
  exact ⟨by simp, rfl⟩
theorem r8LongYes (a b : Option Addr) (n m ca cb : Nat) (hn : ¬ (n ≤ 48 ∧ m ≤ 48)) (w : World) :
    Calls Try.prog 4 #[.slice a n ca, .slice b m cb] w fun e w' => e = .returned (.bool true) ∧ w' = w := by
  by_cases h : n ≤ 48
  · have h1 : ¬ (48 : Int) < (n : Int) := by omega
    have h2 : (48 : Int) < (m : Int) := by omega
    go_enter Try.func4, Try.ntmps4
    go_wp2_with fail
    go_ret
    exact ⟨by simp, rfl⟩
  · have h1 : (48 : Int) < (n : Int) := by omega
    go_enter Try.func4, Try.ntmps4
    go_wp2_with fail
    go_ret
    exact ⟨by simp, rfl⟩
theorem r8At (P : Nat) (a : Option Addr) (n c i k : Nat) (hn : n ≤ 48) (hi : i ≤ 100) (hk : 1 < k) (hk2 : k ≤ 1000) (w : World) (h : CodeAt w P a n) :
    Calls Try.prog 15 #[.slice a n c, .int .i64 (i : Nat), .int .i64 (k : Nat)] w fun e w' => (∃ r : Nat, e = .returned (.int .i64 r) ∧ r < k) ∧ w' = w := by
  have HC := Lib.hid h
  clear h
  have k0 : ¬ (k : Int) ≤ 1 := by omega
  have k1 : ¬ (k : Int) = 0 := by omega
  have k2 : (k : Int) ≤ 1000 := by omega
  have i0 : (0 : Int) ≤ (i : Int) := by omega
  have i1 : (i : Int) ≤ 100 := by omega
  by_cases hlt : i < n
  · obtain ⟨b, off, rfl, hb, hc⟩ := HC.out (by omega)
    obtain ⟨x, hx, h255⟩ := hc i hlt
    have hlt' : (i : Int) < (n : Int) := by omega
    clear hc
    go_enter Try.func15, Try.ntmps15
    go_wp2_with fail
    go_ret
    exact ⟨⟨x % k, rfl, Nat.mod_lt _ (by omega)⟩, rfl⟩
  · have hlt' : (n : Int) ≤ (i : Int) := by omega
    go_enter Try.func15, Try.ntmps15
    go_wp2_with fail
    go_ret
    exact ⟨⟨0, rfl, by omega⟩, rfl⟩
theorem oneS (p : Nat) (a : Option Addr) (n c m k : Nat) (hn : n ≤ 1048576) (hm : m ≤ 1000000) (hk : 1 < k) (hk2 : k ≤ 200) (w : World) (h : SrcAt w 103 p a n c m) :
    Calls Try.prog 64 #[.pointer (some ⟨p, 0, none⟩), .int .i64 (k : Nat)] w fun e w' => (∃ b : Bool, e = .returned (.bool b)) ∧ SrcAt w' 103 p a n c (m + 1) ∧ Only (fun c => c = p) w w' := by
  have H := Lib.hid h
  clear h
  go_enter Try.func64, Try.ntmps64
  go_wp2_with fail
  refine (pickS p a n c m k hn hm hk hk2 _ H.out).mono ?_
  rintro e w1 ⟨⟨r, rfl, hr⟩, hs, ho⟩
  have HS := Lib.hid hs
  have HO := Lib.hid ho
  clear hs ho
  go_wp2_with fail
  go_ret
  exact ⟨⟨_, rfl⟩, HS.out, HO.out⟩
end Go.Proofs.Ytkjljajjjhfklaa

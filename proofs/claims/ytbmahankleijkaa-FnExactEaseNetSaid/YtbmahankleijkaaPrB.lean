/- Contracts: EdgesOfNet and BordersOfNet, both the reference's and the program's. -/
import Derived.Test.YtbmahankleijkaaPair
namespace Go.Proofs.Ytbmahankleijkaa
open Go.RowKit Go.Fl
noncomputable def okN (ps : List Sp) (fs : List (List Int)) : Bool := dec (OkNet ps fs (colA fs) (colB fs))
noncomputable def prX (bo : Bool) (ps : List Sp) (fs : List (List Int)) : List Int := if okN ps fs then prL bo fs else []
theorem prX_no {bo : Bool} {ps : List Sp} {fs : List (List Int)} (h : okN ps fs = false) : prX bo ps fs = [] := by simp [prX, h]
theorem prX_yes {bo : Bool} {ps : List Sp} {fs : List (List Int)} (h : okN ps fs = true) : prX bo ps fs = prL bo fs := by simp [prX, h]
theorem okN_net {ps : List Sp} {fs : List (List Int)} (h : okN ps fs = true) : OkNet ps fs (colA fs) (colB fs) := by
  by_cases q : OkNet ps fs (colA fs) (colB fs)
  · exact q
  · unfold okN at h; rw [dec_no q] at h; cases h
theorem prX_len {bo : Bool} {ps : List Sp} {fs : List (List Int)} : (prX bo ps fs).length ≤ 1048576 := by
  cases h : okN ps fs with
  | false => rw [prX_no h]; simp
  | true =>
    rw [prX_yes h]
    have hok := okN_net h
    have h1 := prTo_len (fun s => !bo || decide (backAt (colA fs) (colB fs) s < 0)) (colA fs) (colB fs) (firsts (colA fs) (colB fs) (sumTo fs fs.length)) (firsts (colA fs) (colB fs) (sumTo fs fs.length)).length
    have h2 := firsts_lenA fs
    have h3 : ∀ j, j ≤ fs.length → sumTo fs j ≤ j * 8 := by
      intro j
      induction j with
      | zero => intro _; simp [sumTo]
      | succ j ih =>
        intro hj
        have := ih (by omega)
        have := (hok.facets j (by omega)).2.1
        simp only [sumTo]; omega
    have := h3 fs.length (Nat.le_refl _)
    have := hok.f256
    unfold prL
    omega

set_option maxHeartbeats 1000000 in
theorem edgesOfS (lo hi : Nat) (sa fa : Option Addr) (sc fc : Nat) (ps : List Sp) (fs : List (List Int)) (hp : ps.length ≤ 1048576) (hn : fs.length ≤ 1048576) (hsh : ∀ i, i < fs.length → (fAt fs i).length ≤ 1048576) (w : World)
    (hs : NetAt w lo hi sa fa ps fs) (hh : hi ≤ w.heap.size) :
    Calls Try.prog 21 #[netV sa fa ps.length sc fs.length fc] w (RetI (prX false ps fs) (okN ps fs) w) := by
  have A0 : OwnC (w.alloc (.cells #[.slice sa ps.length sc, .slice fa fs.length fc] 33)) w.heap.size #[.slice sa ps.length sc, .slice fa fs.length fc] 33 := OwnC.new rfl
  have IS := Lib.hid (l06Is lo hi w.heap.size sa fa sc fc ps fs hp hn hsh (w.alloc (.cells #[.slice sa ps.length sc, .slice fa fs.length fc] 33)) (A0.cell 0) (A0.cell 1) (hs.far ((Far.refl _ _ _).alloc _ hh)) (by simp; omega))
  have HS := Lib.hid hs
  have HSH := Lib.hid hsh
  have HA0 := Lib.hid A0
  clear hs hsh A0
  unfold netV
  cases hv : okN ps fs
  · have HO := Lib.hid hv
    have HV : Hid (dec (OkNet ps fs (colA fs) (colB fs)) = false) := Lib.hid hv
    clear hv
    go_enter Try.func21, Try.ntmps21
    go_wp2_with (go_at_call 44; refine IS.out.mono ?_; rintro e w3 ⟨rfl, hb3⟩; rw [HV.out])
    go_ret2
    exact RetI.no (prX_no HO.out) (Below.trans (by (repeat (first | exact Below.refl _ _ | assumption | refine below_dr ?_ _ | refine Below.alloc ?_ (by first | omega | (simp; done) | (simp; omega)) _ | refine Below.setCell ?_ (by first | omega | (simp; done) | (simp; omega)) _ | refine Below.trans ?_ (Below.mono (by assumption) (by first | omega | (simp; done) | (simp; omega)))))) (hb3.mono (by simp)))
  · have HO := Lib.hid hv
    have HV : Hid (dec (OkNet ps fs (colA fs) (colB fs)) = true) := Lib.hid hv
    have HOK := Lib.hid (OkNet.sideOk (okN_net hv))
    clear hv
    go_enter Try.func21, Try.ntmps21
    go_wp2_with (first | (go_at_call 44; refine IS.out.mono ?_; rintro e w3 ⟨rfl, hb3⟩; rw [HV.out]; have A1 := HA0.out.below hb3 (by first | omega | (simp; done) | (simp; omega)); have q0 := A1.cell 0; have q1 := A1.cell 1; simp at q0 q1) | (go_at_call 54; refine (l06Pairs lo hi w.heap.size sa fa ps.length sc fc fs false hn HSH.out HOK.out _ q0 q1 (HS.out.facets.far (((Far.refl _ _ _).alloc _ hh).trans (Far.below hb3 (by first | omega | (simp; done) | (simp; omega))))) (by have := hb3.size; simp at this; omega)).mono ?_; rintro e w4 ⟨b, cap, rfl, hr4, hl4, hb4⟩))
    go_ret2
    have z3 := hb3.size
    simp at z3
    rw [← prX_yes (bo := false) HO.out] at hr4 ⊢
    exact RetI.yes hr4 (by omega) (Below.trans (Below.trans (by (repeat (first | exact Below.refl _ _ | assumption | refine below_dr ?_ _ | refine Below.alloc ?_ (by first | omega | (simp; done) | (simp; omega)) _ | refine Below.setCell ?_ (by first | omega | (simp; done) | (simp; omega)) _ | refine Below.trans ?_ (Below.mono (by assumption) (by first | omega | (simp; done) | (simp; omega)))))) (hb3.mono (by simp))) (hb4.mono (by omega)))

set_option maxHeartbeats 1000000 in
theorem bordersOfS (lo hi : Nat) (sa fa : Option Addr) (sc fc : Nat) (ps : List Sp) (fs : List (List Int)) (hp : ps.length ≤ 1048576) (hn : fs.length ≤ 1048576) (hsh : ∀ i, i < fs.length → (fAt fs i).length ≤ 1048576) (w : World)
    (hs : NetAt w lo hi sa fa ps fs) (hh : hi ≤ w.heap.size) :
    Calls Try.prog 23 #[netV sa fa ps.length sc fs.length fc] w (RetI (prX true ps fs) (okN ps fs) w) := by
  have A0 : OwnC (w.alloc (.cells #[.slice sa ps.length sc, .slice fa fs.length fc] 33)) w.heap.size #[.slice sa ps.length sc, .slice fa fs.length fc] 33 := OwnC.new rfl
  have IS := Lib.hid (l06Is lo hi w.heap.size sa fa sc fc ps fs hp hn hsh (w.alloc (.cells #[.slice sa ps.length sc, .slice fa fs.length fc] 33)) (A0.cell 0) (A0.cell 1) (hs.far ((Far.refl _ _ _).alloc _ hh)) (by simp; omega))
  have HS := Lib.hid hs
  have HSH := Lib.hid hsh
  have HA0 := Lib.hid A0
  clear hs hsh A0
  unfold netV
  cases hv : okN ps fs
  · have HO := Lib.hid hv
    have HV : Hid (dec (OkNet ps fs (colA fs) (colB fs)) = false) := Lib.hid hv
    clear hv
    go_enter Try.func23, Try.ntmps23
    go_wp2_with (go_at_call 44; refine IS.out.mono ?_; rintro e w3 ⟨rfl, hb3⟩; rw [HV.out])
    go_ret2
    exact RetI.no (prX_no HO.out) (Below.trans (by (repeat (first | exact Below.refl _ _ | assumption | refine below_dr ?_ _ | refine Below.alloc ?_ (by first | omega | (simp; done) | (simp; omega)) _ | refine Below.setCell ?_ (by first | omega | (simp; done) | (simp; omega)) _ | refine Below.trans ?_ (Below.mono (by assumption) (by first | omega | (simp; done) | (simp; omega)))))) (hb3.mono (by simp)))
  · have HO := Lib.hid hv
    have HV : Hid (dec (OkNet ps fs (colA fs) (colB fs)) = true) := Lib.hid hv
    have HOK := Lib.hid (OkNet.sideOk (okN_net hv))
    clear hv
    go_enter Try.func23, Try.ntmps23
    go_wp2_with (first | (go_at_call 44; refine IS.out.mono ?_; rintro e w3 ⟨rfl, hb3⟩; rw [HV.out]; have A1 := HA0.out.below hb3 (by first | omega | (simp; done) | (simp; omega)); have q0 := A1.cell 0; have q1 := A1.cell 1; simp at q0 q1) | (go_at_call 54; refine (l06Pairs lo hi w.heap.size sa fa ps.length sc fc fs true hn HSH.out HOK.out _ q0 q1 (HS.out.facets.far (((Far.refl _ _ _).alloc _ hh).trans (Far.below hb3 (by first | omega | (simp; done) | (simp; omega))))) (by have := hb3.size; simp at this; omega)).mono ?_; rintro e w4 ⟨b, cap, rfl, hr4, hl4, hb4⟩))
    go_ret2
    have z3 := hb3.size
    simp at z3
    rw [← prX_yes (bo := true) HO.out] at hr4 ⊢
    exact RetI.yes hr4 (by omega) (Below.trans (Below.trans (by (repeat (first | exact Below.refl _ _ | assumption | refine below_dr ?_ _ | refine Below.alloc ?_ (by first | omega | (simp; done) | (simp; omega)) _ | refine Below.setCell ?_ (by first | omega | (simp; done) | (simp; omega)) _ | refine Below.trans ?_ (Below.mono (by assumption) (by first | omega | (simp; done) | (simp; omega)))))) (hb3.mono (by simp))) (hb4.mono (by omega)))

/-- the program's list of pairs is the reference's -/
theorem prL_edges (fs : List (List Int)) : prTo (fun _ => true) (colA fs) (colB fs) (firsts (colA fs) (colB fs) (sumTo fs fs.length)) (firsts (colA fs) (colB fs) (sumTo fs fs.length)).length = prL false fs := prTo_congr _ fun _ _ => rfl
theorem prL_borders {fs : List (List Int)} (h : SideOk fs) : prTo (fun s => decide (secF (colA fs) (colB fs) (colF fs) (sumTo fs fs.length) s < 0)) (colA fs) (colB fs) (firsts (colA fs) (colB fs) (sumTo fs fs.length)) (firsts (colA fs) (colB fs) (sumTo fs fs.length)).length = prL true fs :=
  prTo_congr _ fun i _ => by
    show _ = (!true || decide _)
    rw [secF_neg (show (colA fs).length = sumTo fs fs.length from colTo_len _ _ _) h.posF]; simp
/-- a row of edges, read at an edge -/
theorem edRow {w : World} {b cap : Nat} {A B F : List Int} {t : Nat} (h : ORow w 71 4 b cap (firsts A B t).length ((edL A B F t).map (Value.int .i64))) {k : Nat} (hk : k < (firsts A B t).length) (r : Nat) (hr : r < 4) :
    w.cell? ⟨b, k * 4 + r, none⟩ = some (.int .i64 (edP A B F t ((firsts A B t).getD k 0) r)) := by
  rw [h.cell _ (by omega)]
  have hq : k * 4 + r < (firsts A B t).length * 4 := by omega
  have e1 : (k * 4 + r) / 4 = k := by omega
  have e2 : (k * 4 + r) % 4 = r := by omega
  simp [edL, hq, e1, e2]

set_option maxHeartbeats 2000000 in
set_option maxRecDepth 100000 in
theorem edgesOfB (lo hi : Nat) (sa fa : Option Addr) (sc fc : Nat) (ps : List Sp) (fs : List (List Int)) (hp : ps.length ≤ 1048576) (hn : fs.length ≤ 1048576) (hsh : ∀ i, i < fs.length → (fAt fs i).length ≤ 1048576) (w : World)
    (hs : NetAt w lo hi sa fa ps fs) (hca : SlC w lo hi fa fs) (hh : hi ≤ w.heap.size) :
    Calls Try.prog 22 #[netV sa fa ps.length sc fs.length fc] w (RetI (prX false ps fs) (okN ps fs) w) := by
  have A0 : OwnC (w.alloc (.cells #[.slice sa ps.length sc, .slice fa fs.length fc] 33)) w.heap.size #[.slice sa ps.length sc, .slice fa fs.length fc] 33 := OwnC.new rfl
  have IS := Lib.hid (validNet lo hi sa fa sc fc ps fs hp hn hsh (w.alloc (.cells #[.slice sa ps.length sc, .slice fa fs.length fc] 33)) (hs.far ((Far.refl _ _ _).alloc _ hh)) (hca.far ((Far.refl _ _ _).alloc _ hh)) (by simp; omega))
  have HS := Lib.hid hs
  have HSH := Lib.hid hsh
  have HA0 := Lib.hid A0
  clear hs hsh A0 hca
  unfold netV at *
  cases hv : okN ps fs
  · have HO := Lib.hid hv
    have HV : Hid (dec (OkNet ps fs (colA fs) (colB fs)) = false) := Lib.hid hv
    clear hv
    go_enter Try.func22, Try.ntmps22
    go_wp2_with (go_at_call 49; refine IS.out.mono ?_; rintro e w3 ⟨rfl, hb3⟩; rw [HV.out])
    go_ret2
    exact RetI.no (prX_no HO.out) (Below.trans (by (repeat (first | exact Below.refl _ _ | assumption | refine below_dr ?_ _ | refine Below.alloc ?_ (by first | omega | (simp; done) | (simp; omega)) _ | refine Below.setCell ?_ (by first | omega | (simp; done) | (simp; omega)) _ | refine Below.trans ?_ (Below.mono (by assumption) (by first | omega | (simp; done) | (simp; omega)))))) (hb3.mono (by simp)))
  · have HO := Lib.hid hv
    have HV : Hid (dec (OkNet ps fs (colA fs) (colB fs)) = true) := Lib.hid hv
    have HOK := Lib.hid (OkNet.sideOk (okN_net hv))
    clear hv
    go_enter Try.func22, Try.ntmps22
    go_wp2_with (first | (go_at_call 49; refine IS.out.mono ?_; rintro e w3 ⟨rfl, hb3⟩; rw [HV.out]; have A1 := HA0.out.below hb3 (by first | omega | (simp; done) | (simp; omega)); have B1 := A1.alloc (.cells #[] 2); have q0 := B1.cell 0; have q1 := B1.cell 1; simp at q0 q1))
    have z3 := hb3.size
    simp at z3
    refine (edgesI lo hi sa fa ps.length sc fc fs hn HSH.out HOK.out _ (HS.out.facets.far ((((Far.refl _ _ _).alloc _ hh).trans (Far.below hb3 (by first | omega | (simp; done) | (simp; omega)))).alloc _ (by omega))) (by simp; omega)).mono ?_
    rintro e w4 ⟨eb, ec, rfl, hE, zE, hb4⟩
    have hb5 : Below w.heap.size w w3 := by
      have := hb3.mono (B' := w.heap.size) (by simp)
      (repeat (first | exact Below.refl _ _ | assumption | refine below_dr ?_ _ | refine Below.alloc ?_ (by first | omega | (simp; done) | (simp; omega)) _ | refine Below.setCell ?_ (by first | omega | (simp; done) | (simp; omega)) _ | refine Below.trans ?_ (Below.mono (by assumption) (by first | omega | (simp; done) | (simp; omega)))))
    have HB4 := Lib.hid ((hb5.alloc (by omega) (.cells #[] 2)).trans (hb4.mono (by simp; omega)))
    have z4 := hb4.size
    simp at z4 zE
    have hrow : ORow (w3.alloc (.cells #[] 2)) 2 1 w3.heap.size 0 0 [] := ORow.new w3 _ _
    have HR0 := Lib.hid (hrow.below hb4 (by simp))
    have hlE := hE.lt
    have HE := Lib.hid hE
    have HF := Lib.hid HOK.out.few
    have hfl := firsts_lenA fs
    have hPL : Hid (prTo (fun _ => true) (colA fs) (colB fs) (firsts (colA fs) (colB fs) (sumTo fs fs.length)) (firsts (colA fs) (colB fs) (sumTo fs fs.length)).length = prX false ps fs) := Lib.hid ((prL_edges fs).trans (prX_yes HO.out).symm)
    have hfew := HOK.out.few
    have hpl := prTo_len (fun _ => true) (colA fs) (colB fs) (firsts (colA fs) (colB fs) (sumTo fs fs.length))
    have HPLEN := Lib.hid hpl
    have HER : Hid (∀ k r, k < (firsts (colA fs) (colB fs) (sumTo fs fs.length)).length → r < 4 → w4.cell? ⟨eb, k * 4 + r, none⟩ = some (.int .i64 (edP (colA fs) (colB fs) (colF fs) (sumTo fs fs.length) ((firsts (colA fs) (colB fs) (sumTo fs fs.length)).getD k 0) r))) := fun k r h1 h2 => edRow HE.out h1 r h2
    clear hb3 hb4 hb5 hrow hE HE A1 B1 q0 q1 hpl
    generalize firsts (colA fs) (colB fs) (sumTo fs fs.length) = L at *
    generalize sumTo fs fs.length = m at *
    go_wp2_with fail
    go_loopw [4, 14] (fun out i wr => ∃ k b cap : Nat, k ≤ L.length ∧ i = .int .i64 k ∧ out = .slice (some ⟨b, 0, none⟩) (prTo (fun _ => true) (colA fs) (colB fs) L k).length cap ∧ Hid (ORow wr 2 1 b cap (prTo (fun _ => true) (colA fs) (colB fs) L k).length ((prTo (fun _ => true) (colA fs) (colB fs) L k).map (Value.int .i64))) ∧ w.heap.size ≤ b ∧ b ≠ eb ∧ Hid (Far eb (eb + 1) w4 wr) ∧ Hid (Below w.heap.size w wr) ∧ eb < wr.heap.size) (fun _ i _ => L.length - (intOf i).toNat)
    case atStart => exact ⟨0, w3.heap.size, 0, by omega, rfl, rfl, HR0, by omega, by omega, Far.refl _ _ _, HB4, hlE⟩
    case round =>
      clear HR0 HB4
      obtain ⟨k, b, cap, hk, rfl, rfl, HR, hbb, hbe, HFA, HW, hez⟩ := hrel
      by_cases hlt : k < L.length
      · have e0 : wr.cell? ⟨eb, k * 4, none⟩ = some (.int .i64 (iAt (colA fs) (L.getD k 0))) := (HFA.out.cell (Nat.le_refl _) (Nat.lt_succ_self _)).trans (HER.out k 0 hlt (by omega))
        have e1 : wr.cell? ⟨eb, k * 4 + 1, none⟩ = some (.int .i64 (iAt (colB fs) (L.getD k 0))) := (HFA.out.cell (Nat.le_refl _) (Nat.lt_succ_self _)).trans (HER.out k 1 hlt (by omega))
        have e2 : wr.cell? ⟨eb, k * 4 + 2, none⟩ = some (.int .i64 (iAt (colF fs) (L.getD k 0))) := (HFA.out.cell (Nat.le_refl _) (Nat.lt_succ_self _)).trans (HER.out k 2 hlt (by omega))
        have e3 : wr.cell? ⟨eb, k * 4 + 3, none⟩ = some (.int .i64 (secF (colA fs) (colB fs) (colF fs) m (L.getD k 0))) := (HFA.out.cell (Nat.le_refl _) (Nat.lt_succ_self _)).trans (HER.out k 3 hlt (by omega))
        have hlen := HPLEN.out k
        have HY : Hid ((fun _ => true) (L.getD k 0) = true → prTo (fun _ => true) (colA fs) (colB fs) L (k + 1) = prTo (fun _ => true) (colA fs) (colB fs) L k ++ [iAt (colA fs) (L.getD k 0), iAt (colB fs) (L.getD k 0)]) := fun h => prTo_yes h
        have HNo : Hid ((fun _ => true) (L.getD k 0) = false → prTo (fun _ => true) (colA fs) (colB fs) L (k + 1) = prTo (fun _ => true) (colA fs) (colB fs) L k) := fun h => prTo_no h
        generalize L.getD k 0 = s at *
        have k0 : (0 : Int) ≤ (k : Int) := by omega
        have k1 : (k : Int) < (L.length : Int) := by omega
        have HW1 := Lib.hid (HW.out.alloc HW.out.size (.cells #[.int .i64 (iAt (colA fs) s), .int .i64 (iAt (colB fs) s), .int .i64 (iAt (colF fs) s), .int .i64 (secF (colA fs) (colB fs) (colF fs) m s)] 71))
        have HR1 := Lib.hid (HR.out.far (lo := 0) (hi := wr.heap.size) ((Far.refl _ _ _).alloc (.cells #[.int .i64 (iAt (colA fs) s), .int .i64 (iAt (colB fs) s), .int .i64 (iAt (colF fs) s), .int .i64 (secF (colA fs) (colB fs) (colF fs) m s)] 71) (Nat.le_refl _)) (Nat.zero_le _) HR.out.lt)
        have HF1 := Lib.hid (HFA.out.alloc (.cells #[.int .i64 (iAt (colA fs) s), .int .i64 (iAt (colB fs) s), .int .i64 (iAt (colF fs) s), .int .i64 (secF (colA fs) (colB fs) (colF fs) m s)] 71) hez)
        have HP := Lib.hid (HY.out rfl)
        go_wp2_with (at_builtin; refine wpList_appN rfl _ _ _ rfl 2 (.int .i64 0) 1 8 Try.underlying27 infoInt rfl (by decide) _ #[.int .i64 (iAt (colA fs) s), .int .i64 (iAt (colB fs) s)] 2 2 rfl (by simp [Value.oneCell']) _ b cap _ _ rfl rfl (by simp) (by omega) (by omega) HR1.out (by omega) (by decide) ?_; intro b4 cap4 w4 hr4 hg4 hgr4)
        have hz2 := HW.out.size
        have hg5 := hgr4.size
        simp at hg5 hg4
        go_roundw
        case rel =>
          refine ⟨k + 1, b4, cap4, by omega, by go_num, by rw [HP.out]; simp, ?_, by omega, by omega, HF1.out.trans (hgr4.far (by simp; omega) (by omega)), HW1.out.trans (hgr4.below hbb (by simp; omega)), by omega⟩
          rw [HP.out]
          have := hr4
          simp only [List.map_append, List.map_cons, List.map_nil, List.length_append, List.length_cons, List.length_nil]
          exact this
        case measure => simp [intOf]; omega
      · have hkl : k = L.length := by omega
        subst hkl
        go_wp2_with fail
        go_ret2
        rw [← hPL.out]
        exact RetI.yes HR.out hbb HW.out

set_option maxHeartbeats 2000000 in
set_option maxRecDepth 100000 in
theorem bordersOfB (lo hi : Nat) (sa fa : Option Addr) (sc fc : Nat) (ps : List Sp) (fs : List (List Int)) (hp : ps.length ≤ 1048576) (hn : fs.length ≤ 1048576) (hsh : ∀ i, i < fs.length → (fAt fs i).length ≤ 1048576) (w : World)
    (hs : NetAt w lo hi sa fa ps fs) (hca : SlC w lo hi fa fs) (hh : hi ≤ w.heap.size) :
    Calls Try.prog 24 #[netV sa fa ps.length sc fs.length fc] w (RetI (prX true ps fs) (okN ps fs) w) := by
  have A0 : OwnC (w.alloc (.cells #[.slice sa ps.length sc, .slice fa fs.length fc] 33)) w.heap.size #[.slice sa ps.length sc, .slice fa fs.length fc] 33 := OwnC.new rfl
  have IS := Lib.hid (validNet lo hi sa fa sc fc ps fs hp hn hsh (w.alloc (.cells #[.slice sa ps.length sc, .slice fa fs.length fc] 33)) (hs.far ((Far.refl _ _ _).alloc _ hh)) (hca.far ((Far.refl _ _ _).alloc _ hh)) (by simp; omega))
  have HS := Lib.hid hs
  have HSH := Lib.hid hsh
  have HA0 := Lib.hid A0
  clear hs hsh A0 hca
  unfold netV at *
  cases hv : okN ps fs
  · have HO := Lib.hid hv
    have HV : Hid (dec (OkNet ps fs (colA fs) (colB fs)) = false) := Lib.hid hv
    clear hv
    go_enter Try.func24, Try.ntmps24
    go_wp2_with (go_at_call 49; refine IS.out.mono ?_; rintro e w3 ⟨rfl, hb3⟩; rw [HV.out])
    go_ret2
    exact RetI.no (prX_no HO.out) (Below.trans (by (repeat (first | exact Below.refl _ _ | assumption | refine below_dr ?_ _ | refine Below.alloc ?_ (by first | omega | (simp; done) | (simp; omega)) _ | refine Below.setCell ?_ (by first | omega | (simp; done) | (simp; omega)) _ | refine Below.trans ?_ (Below.mono (by assumption) (by first | omega | (simp; done) | (simp; omega)))))) (hb3.mono (by simp)))
  · have HO := Lib.hid hv
    have HV : Hid (dec (OkNet ps fs (colA fs) (colB fs)) = true) := Lib.hid hv
    have HOK := Lib.hid (OkNet.sideOk (okN_net hv))
    clear hv
    go_enter Try.func24, Try.ntmps24
    go_wp2_with (first | (go_at_call 49; refine IS.out.mono ?_; rintro e w3 ⟨rfl, hb3⟩; rw [HV.out]; have A1 := HA0.out.below hb3 (by first | omega | (simp; done) | (simp; omega)); have B1 := A1.alloc (.cells #[] 2); have q0 := B1.cell 0; have q1 := B1.cell 1; simp at q0 q1))
    have z3 := hb3.size
    simp at z3
    refine (edgesI lo hi sa fa ps.length sc fc fs hn HSH.out HOK.out _ (HS.out.facets.far ((((Far.refl _ _ _).alloc _ hh).trans (Far.below hb3 (by first | omega | (simp; done) | (simp; omega)))).alloc _ (by omega))) (by simp; omega)).mono ?_
    rintro e w4 ⟨eb, ec, rfl, hE, zE, hb4⟩
    have hb5 : Below w.heap.size w w3 := by
      have := hb3.mono (B' := w.heap.size) (by simp)
      (repeat (first | exact Below.refl _ _ | assumption | refine below_dr ?_ _ | refine Below.alloc ?_ (by first | omega | (simp; done) | (simp; omega)) _ | refine Below.setCell ?_ (by first | omega | (simp; done) | (simp; omega)) _ | refine Below.trans ?_ (Below.mono (by assumption) (by first | omega | (simp; done) | (simp; omega)))))
    have HB4 := Lib.hid ((hb5.alloc (by omega) (.cells #[] 2)).trans (hb4.mono (by simp; omega)))
    have z4 := hb4.size
    simp at z4 zE
    have hrow : ORow (w3.alloc (.cells #[] 2)) 2 1 w3.heap.size 0 0 [] := ORow.new w3 _ _
    have HR0 := Lib.hid (hrow.below hb4 (by simp))
    have hlE := hE.lt
    have HE := Lib.hid hE
    have HF := Lib.hid HOK.out.few
    have hfl := firsts_lenA fs
    have hPL : Hid (prTo (fun s => decide (secF (colA fs) (colB fs) (colF fs) (sumTo fs fs.length) s < 0)) (colA fs) (colB fs) (firsts (colA fs) (colB fs) (sumTo fs fs.length)) (firsts (colA fs) (colB fs) (sumTo fs fs.length)).length = prX true ps fs) := Lib.hid ((prL_borders HOK.out).trans (prX_yes HO.out).symm)
    have hfew := HOK.out.few
    have hpl := prTo_len (fun s => decide (secF (colA fs) (colB fs) (colF fs) (sumTo fs fs.length) s < 0)) (colA fs) (colB fs) (firsts (colA fs) (colB fs) (sumTo fs fs.length))
    have HPLEN := Lib.hid hpl
    have HER : Hid (∀ k r, k < (firsts (colA fs) (colB fs) (sumTo fs fs.length)).length → r < 4 → w4.cell? ⟨eb, k * 4 + r, none⟩ = some (.int .i64 (edP (colA fs) (colB fs) (colF fs) (sumTo fs fs.length) ((firsts (colA fs) (colB fs) (sumTo fs fs.length)).getD k 0) r))) := fun k r h1 h2 => edRow HE.out h1 r h2
    clear hb3 hb4 hb5 hrow hE HE A1 B1 q0 q1 hpl
    generalize firsts (colA fs) (colB fs) (sumTo fs fs.length) = L at *
    generalize sumTo fs fs.length = m at *
    go_wp2_with fail
    go_loopw [4, 14] (fun out i wr => ∃ k b cap : Nat, k ≤ L.length ∧ i = .int .i64 k ∧ out = .slice (some ⟨b, 0, none⟩) (prTo (fun s => decide (secF (colA fs) (colB fs) (colF fs) m s < 0)) (colA fs) (colB fs) L k).length cap ∧ Hid (ORow wr 2 1 b cap (prTo (fun s => decide (secF (colA fs) (colB fs) (colF fs) m s < 0)) (colA fs) (colB fs) L k).length ((prTo (fun s => decide (secF (colA fs) (colB fs) (colF fs) m s < 0)) (colA fs) (colB fs) L k).map (Value.int .i64))) ∧ w.heap.size ≤ b ∧ b ≠ eb ∧ Hid (Far eb (eb + 1) w4 wr) ∧ Hid (Below w.heap.size w wr) ∧ eb < wr.heap.size) (fun _ i _ => L.length - (intOf i).toNat)
    case atStart => exact ⟨0, w3.heap.size, 0, by omega, rfl, rfl, HR0, by omega, by omega, Far.refl _ _ _, HB4, hlE⟩
    case round =>
      clear HR0 HB4
      obtain ⟨k, b, cap, hk, rfl, rfl, HR, hbb, hbe, HFA, HW, hez⟩ := hrel
      by_cases hlt : k < L.length
      · have e0 : wr.cell? ⟨eb, k * 4, none⟩ = some (.int .i64 (iAt (colA fs) (L.getD k 0))) := (HFA.out.cell (Nat.le_refl _) (Nat.lt_succ_self _)).trans (HER.out k 0 hlt (by omega))
        have e1 : wr.cell? ⟨eb, k * 4 + 1, none⟩ = some (.int .i64 (iAt (colB fs) (L.getD k 0))) := (HFA.out.cell (Nat.le_refl _) (Nat.lt_succ_self _)).trans (HER.out k 1 hlt (by omega))
        have e2 : wr.cell? ⟨eb, k * 4 + 2, none⟩ = some (.int .i64 (iAt (colF fs) (L.getD k 0))) := (HFA.out.cell (Nat.le_refl _) (Nat.lt_succ_self _)).trans (HER.out k 2 hlt (by omega))
        have e3 : wr.cell? ⟨eb, k * 4 + 3, none⟩ = some (.int .i64 (secF (colA fs) (colB fs) (colF fs) m (L.getD k 0))) := (HFA.out.cell (Nat.le_refl _) (Nat.lt_succ_self _)).trans (HER.out k 3 hlt (by omega))
        have hlen := HPLEN.out k
        have HY : Hid ((fun s => decide (secF (colA fs) (colB fs) (colF fs) m s < 0)) (L.getD k 0) = true → prTo (fun s => decide (secF (colA fs) (colB fs) (colF fs) m s < 0)) (colA fs) (colB fs) L (k + 1) = prTo (fun s => decide (secF (colA fs) (colB fs) (colF fs) m s < 0)) (colA fs) (colB fs) L k ++ [iAt (colA fs) (L.getD k 0), iAt (colB fs) (L.getD k 0)]) := fun h => prTo_yes h
        have HNo : Hid ((fun s => decide (secF (colA fs) (colB fs) (colF fs) m s < 0)) (L.getD k 0) = false → prTo (fun s => decide (secF (colA fs) (colB fs) (colF fs) m s < 0)) (colA fs) (colB fs) L (k + 1) = prTo (fun s => decide (secF (colA fs) (colB fs) (colF fs) m s < 0)) (colA fs) (colB fs) L k) := fun h => prTo_no h
        generalize L.getD k 0 = s at *
        have k0 : (0 : Int) ≤ (k : Int) := by omega
        have k1 : (k : Int) < (L.length : Int) := by omega
        have HW1 := Lib.hid (HW.out.alloc HW.out.size (.cells #[.int .i64 (iAt (colA fs) s), .int .i64 (iAt (colB fs) s), .int .i64 (iAt (colF fs) s), .int .i64 (secF (colA fs) (colB fs) (colF fs) m s)] 71))
        have HR1 := Lib.hid (HR.out.far (lo := 0) (hi := wr.heap.size) ((Far.refl _ _ _).alloc (.cells #[.int .i64 (iAt (colA fs) s), .int .i64 (iAt (colB fs) s), .int .i64 (iAt (colF fs) s), .int .i64 (secF (colA fs) (colB fs) (colF fs) m s)] 71) (Nat.le_refl _)) (Nat.zero_le _) HR.out.lt)
        have HF1 := Lib.hid (HFA.out.alloc (.cells #[.int .i64 (iAt (colA fs) s), .int .i64 (iAt (colB fs) s), .int .i64 (iAt (colF fs) s), .int .i64 (secF (colA fs) (colB fs) (colF fs) m s)] 71) hez)
        by_cases hlt0 : secF (colA fs) (colB fs) (colF fs) m s < 0
        · have HD := Lib.hid (decide_eq_true hlt0)
          have HP := Lib.hid (HY.out HD.out)
          go_wp2_with (at_builtin; refine wpList_appN rfl _ _ _ rfl 2 (.int .i64 0) 1 8 Try.underlying27 infoInt rfl (by decide) _ #[.int .i64 (iAt (colA fs) s), .int .i64 (iAt (colB fs) s)] 2 2 rfl (by simp [Value.oneCell']) _ b cap _ _ rfl rfl (by simp) (by omega) (by omega) HR1.out (by omega) (by decide) ?_; intro b4 cap4 w4 hr4 hg4 hgr4)
          have hz2 := HW.out.size
          have hg5 := hgr4.size
          simp at hg5 hg4
          go_roundw
          case rel =>
            refine ⟨k + 1, b4, cap4, by omega, by go_num, by rw [HP.out]; simp, ?_, by omega, by omega, HF1.out.trans (hgr4.far (by simp; omega) (by omega)), HW1.out.trans (hgr4.below hbb (by simp; omega)), by omega⟩
            rw [HP.out]
            have := hr4
            simp only [List.map_append, List.map_cons, List.map_nil, List.length_append, List.length_cons, List.length_nil]
            exact this
          case measure => simp [intOf]; omega
        · have HP := Lib.hid (HNo.out (decide_eq_false hlt0))
          go_wp2_with fail
          go_roundw
          case rel => exact ⟨k + 1, b, cap, by omega, by go_num, by rw [HP.out], by rw [HP.out]; exact HR1, hbb, hbe, HF1, HW1, by simp; omega⟩
          case measure => simp [intOf]; omega
      · have hkl : k = L.length := by omega
        subst hkl
        go_wp2_with fail
        go_ret2
        rw [← hPL.out]
        exact RetI.yes HR.out hbb HW.out

end Go.Proofs.Ytbmahankleijkaa

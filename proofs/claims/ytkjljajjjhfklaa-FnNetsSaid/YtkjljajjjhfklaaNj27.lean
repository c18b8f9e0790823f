/- Nets, the law: its calls at the law's nets. Nets, the law: boxes and tiles at the law's numbers. -/
import Derived.Test.YtkjljajjjhfklaaNnY
import Derived.Test.YtkjljajjjhfklaaNnR
import Derived.Test.YtkjljajjjhfklaaNj11
import Derived.Test.YtkjljajjjhfklaaNj26
import Derived.Test.YtkjljajjjhfklaaNnF
namespace Go.Proofs.Ytkjljajjjhfklaa
open Go.RowKit Go.Fl
/-- the net in block b -/
structure NAt (W : World) (b : Nat) (sa fa : Option Addr) (sc fc n0 f0 : Nat) (ps : List Sp) (fs : List (List Int)) : Prop where
  pl : ps.length = n0
  fl : fs.length = f0
  own : OwnC W b #[.slice sa n0 sc, .slice fa f0 fc] 27
  net : ∃ lo hi, ONet W lo hi sa fa ps fs ∧ hi ≤ W.heap.size
theorem NAt.below {W W' : World} {b : Nat} {sa fa : Option Addr} {sc fc n0 f0 : Nat} {ps : List Sp} {fs : List (List Int)} (h : NAt W b sa fa sc fc n0 f0 ps fs) (hb : Below W.heap.size W W') : NAt W' b sa fa sc fc n0 f0 ps fs := by
  obtain ⟨lo, hi, hn, hh⟩ := h.net
  exact ⟨h.pl, h.fl, h.own.below hb h.own.lt, lo, hi, hn.far (Far.below hb hh), Nat.le_trans hh hb.size⟩
theorem NAt.new {W : World} {lo : Nat} {sa fa : Option Addr} {sc fc n0 f0 : Nat} {ps : List Sp} {fs : List (List Int)} (h : ONet W lo W.heap.size sa fa ps fs) (hp : ps.length = n0) (hf : fs.length = f0) :
    NAt (W.alloc (.cells #[.slice sa n0 sc, .slice fa f0 fc] 27)) W.heap.size sa fa sc fc n0 f0 ps fs :=
  ⟨hp, hf, OwnC.new rfl, lo, W.heap.size, h.far ((Far.refl _ _ _).alloc _ (Nat.le_refl _)), by simp⟩
/-- the sizes of a net are small -/
structure NSm (ps : List Sp) (fs : List (List Int)) : Prop where
  ok : OkNet ps fs (colA fs) (colB fs)
theorem NSm.p {ps : List Sp} {fs : List (List Int)} (h : NSm ps fs) : ps.length ≤ 1048576 := Nat.le_trans h.ok.n256 (by decide)
theorem NSm.f {ps : List Sp} {fs : List (List Int)} (h : NSm ps fs) : fs.length ≤ 1048576 := Nat.le_trans h.ok.f256 (by decide)
theorem NSm.c {ps : List Sp} {fs : List (List Int)} (h : NSm ps fs) : ∀ i, i < fs.length → (fAt fs i).length ≤ 1048576 := fun i hi => Nat.le_trans (h.ok.facets i hi).2.1 (by decide)
theorem NSm.v {ps : List Sp} {fs : List (List Int)} (h : NSm ps fs) : okN ps fs = true := dec_yes h.ok
section
variable {W : World} {b : Nat} {sa fa : Option Addr} {sc fc n0 f0 : Nat} {ps : List Sp} {fs : List (List Int)}
theorem edgesA (h : NAt W b sa fa sc fc n0 f0 ps fs) (hs : NSm ps fs) {E : Nat} (hE : (prL false fs).length = E) :
    Calls Try.prog 6 #[.agg #[.slice sa n0 sc, .slice fa f0 fc]] W fun e w' => (∃ ao c, e = .returned (.tuple #[.slice ao E c, .bool true])) ∧ Below W.heap.size W w' := by
  obtain ⟨rfl, rfl, _, lo, hi, hn, hh⟩ := h
  refine (edgesOfB lo hi sa fa sc fc ps fs hs.p hs.f hs.c W hn.net hn.slc hh).mono ?_
  rintro e w' ⟨⟨ao, c, he, _⟩, hb⟩
  have e1 : prX false ps fs = prL false fs := by unfold prX; rw [if_pos hs.v]
  rw [e1, hE, hs.v] at he
  exact ⟨⟨ao, c, he⟩, hb⟩
theorem bordersA (h : NAt W b sa fa sc fc n0 f0 ps fs) (hs : NSm ps fs) {E : Nat} (hE : (prL true fs).length = E) :
    Calls Try.prog 7 #[.agg #[.slice sa n0 sc, .slice fa f0 fc]] W fun e w' => (∃ ao c, e = .returned (.tuple #[.slice ao E c, .bool true])) ∧ Below W.heap.size W w' := by
  obtain ⟨rfl, rfl, _, lo, hi, hn, hh⟩ := h
  refine (bordersOfB lo hi sa fa sc fc ps fs hs.p hs.f hs.c W hn.net hn.slc hh).mono ?_
  rintro e w' ⟨⟨ao, c, he, _⟩, hb⟩
  have e1 : prX true ps fs = prL true fs := by unfold prX; rw [if_pos hs.v]
  rw [e1, hE, hs.v] at he
  exact ⟨⟨ao, c, he⟩, hb⟩
theorem eulerA (h : NAt W b sa fa sc fc n0 f0 ps fs) (hs : NSm ps fs) {X : Int} (hX : (n0 : Int) - ((fsts fs).length : Int) + (f0 : Int) = X) :
    Calls Try.prog 8 #[.agg #[.slice sa n0 sc, .slice fa f0 fc]] W fun e w' => e = .returned (.tuple #[.int .i64 X, .bool true]) ∧ Below W.heap.size W w' := by
  obtain ⟨rfl, rfl, _, lo, hi, hn, hh⟩ := h
  refine (eulerN lo hi sa fa sc fc ps fs hs.p hs.f hs.c hs.v W hn.net hn.slc hh).mono ?_
  rintro e w' ⟨he, hb⟩
  rw [hX] at he
  exact ⟨he, hb⟩
theorem roundA (h : NAt W b sa fa sc fc n0 f0 ps fs) (hs : NSm ps fs) (hv : okN (rnP ps fs) (rnF fs ps.length) = true) {n1 f1 : Nat} (hn1 : (rnP ps fs).length = n1) (hf1 : (rnF fs ps.length).length = f1) :
    Calls Try.prog 9 #[.agg #[.slice sa n0 sc, .slice fa f0 fc]] W fun e w' => (∃ sa' fa' c1 c2, e = .returned (.tuple #[.agg #[.slice sa' n1 c1, .slice fa' f1 c2], .bool true]) ∧ ONet w' W.heap.size w'.heap.size sa' fa' (rnP ps fs) (rnF fs ps.length)) ∧ Below W.heap.size W w' := by
  obtain ⟨rfl, rfl, _, lo, hi, hn, hh⟩ := h
  refine (roundNetN lo hi sa fa sc fc ps fs hs.p hs.f hs.c hs.v hv W hn.net hn.slc hh).mono ?_
  rintro e w' ⟨⟨sa', fa', c1, c2, he, ho⟩, hb⟩
  unfold netV at he
  rw [hn1, hf1] at he
  exact ⟨⟨sa', fa', c1, c2, he, ho⟩, hb⟩
theorem backA (h : NAt W b sa fa sc fc n0 f0 ps fs) (hs : NSm ps fs) :
    Calls Try.prog 10 #[.agg #[.slice sa n0 sc, .slice fa f0 fc]] W fun e w' => (∃ sa' fa' c1 c2, e = .returned (.tuple #[.agg #[.slice sa' n0 c1, .slice fa' f0 c2], .bool true]) ∧ ONet w' W.heap.size w'.heap.size sa' fa' ps (fs.map List.reverse)) ∧ Below W.heap.size W w' := by
  obtain ⟨rfl, rfl, _, lo, hi, hn, hh⟩ := h
  refine (backB lo hi sa fa sc fc ps fs hs.p hs.f hs.c W hn.net hn.slc hh).mono ?_
  rintro e w' ⟨⟨sa', fa', c1, c2, he, ho⟩, hb⟩
  have e1 : backP ps fs = ps := by unfold backP; rw [if_pos hs.v]
  have e2 : backF ps fs = fs.map List.reverse := by unfold backF; rw [if_pos hs.v]
  unfold netV at he
  rw [e1, e2, List.length_map, hs.v] at he
  rw [e1, e2] at ho
  exact ⟨⟨sa', fa', c1, c2, he, ho⟩, hb⟩
theorem areaA (h : NAt W b sa fa sc fc n0 f0 ps fs) (hs : NSm ps fs) (hok : areaO ps fs = true) {r : Nat} (hr : isN .f32 r = true) (hv : areaV ps fs = r) :
    Calls Try.prog 12 #[.agg #[.slice sa n0 sc, .slice fa f0 fc]] W fun e w' => e = .returned (.tuple #[.float .f32 r, .bool true]) ∧ Below W.heap.size W w' := by
  obtain ⟨rfl, rfl, _, lo, hi, hn, hh⟩ := h
  refine (areaB lo hi sa fa sc fc ps fs hs.p hs.f hs.c W hn.net hn.slc hh).mono ?_
  rintro e w' ⟨⟨x, he, hx⟩, hb⟩
  rw [hok] at he
  rw [hv] at hx
  obtain ⟨rfl, _⟩ := fin_can hx (by rw [fin_isNum]; exact hr)
  exact ⟨he, hb⟩
theorem volA (h : NAt W b sa fa sc fc n0 f0 ps fs) (hs : NSm ps fs) {q : Bool} (hq : volO ps fs = q) :
    Calls Try.prog 13 #[.agg #[.slice sa n0 sc, .slice fa f0 fc]] W fun e w' => (∃ r, e = .returned (.tuple #[.float .f32 r, .bool q]) ∧ can .f32 r = volV ps fs) ∧ Below W.heap.size W w' := by
  obtain ⟨rfl, rfl, _, lo, hi, hn, hh⟩ := h
  refine (volB lo hi sa fa sc fc ps fs hs.p hs.f hs.c W hn.net hn.slc hh).mono ?_
  rintro e w' ⟨⟨x, he, hx⟩, hb⟩
  rw [hq] at he
  exact ⟨⟨x, he, hx⟩, hb⟩
theorem sharedA (h : NAt W b sa fa sc fc n0 f0 ps fs) (hs : NSm ps fs) (hM : (midsTo ps fs fs.length).all finSp = true) {x : Int} (hx : 1 ≤ x ∧ x ≤ 8) :
    Calls Try.prog 14 #[.agg #[.slice sa n0 sc, .slice fa f0 fc], .int .i64 x] W fun e w' => (∃ ao c, e = .returned (.tuple #[.slice ao f0 c, .bool true]) ∧ OwnP w' W.heap.size w'.heap.size ao (midsTo ps fs fs.length)) ∧ Below W.heap.size W w' := by
  obtain ⟨rfl, rfl, _, lo, hi, hn, hh⟩ := h
  refine (sharedB lo hi sa fa sc fc ps fs x hs.p hs.f hs.c W hn.net hn.slc hh).mono ?_
  rintro e w' ⟨⟨ao, c, he, ho⟩, hb⟩
  have e1 : shOk ps fs x = true := by unfold shOk; rw [hs.v, hM]; simp [inB, hx]
  have e2 : shL ps fs x = midsTo ps fs fs.length := by unfold shL; rw [if_pos e1]
  rw [e1, e2, midsTo_len] at he
  rw [e2] at ho
  exact ⟨⟨ao, c, he, ho⟩, hb⟩
theorem pointA (h : NAt W b sa fa sc fc n0 f0 ps fs) (hs : NSm ps fs) {j : Nat} (hj : j < f0) {x y z : Nat} (hf : finSp (mid ps (fAt fs j)) = true) (hm : mid ps (fAt fs j) = (x, y, z)) :
    Calls Try.prog 16 #[.agg #[.slice sa n0 sc, .slice fa f0 fc], .int .i64 (j : Int)] W fun e w' => e = .returned (.tuple #[.agg #[.float .f32 x, .float .f32 y, .float .f32 z], .bool true]) ∧ Below W.heap.size W w' := by
  obtain ⟨rfl, rfl, _, lo, hi, hn, hh⟩ := h
  refine (facetPointN lo hi sa fa sc fc j ps fs hs.p hs.f hs.c hj hs.v hf W hn.net hn.slc hh).mono ?_
  rintro e w' ⟨he, hb⟩
  rw [hm] at he
  exact ⟨he, hb⟩
theorem easeA (h : NAt W b sa fa sc fc n0 f0 ps fs) (hs : NSm ps fs) (hok : ezO ps fs 0 = true) :
    Calls Try.prog 17 #[.agg #[.slice sa n0 sc, .slice fa f0 fc], .float .f32 0] W fun e w' => (∃ sa' fa' c1 c2, e = .returned (.tuple #[.agg #[.slice sa' n0 c1, .slice fa' f0 c2], .bool true]) ∧ ONet w' W.heap.size w'.heap.size sa' fa' (ezL ps fs 0) fs) ∧ Below W.heap.size W w' := by
  obtain ⟨rfl, rfl, _, lo, hi, hn, hh⟩ := h
  refine (easeB lo hi sa fa sc fc ps fs 0 hs.p hs.f hs.c W hn.net hn.slc hh).mono ?_
  rintro e w' ⟨⟨sa', fa', c1, c2, he, ho⟩, hb⟩
  have z : can .f32 0 = 0 := by decide +kernel
  have e1 : ezRP ps fs 0 = ezL ps fs 0 := by unfold ezRP; rw [if_pos hok]
  have e2 : ezRF ps fs 0 = fs := by unfold ezRF; rw [if_pos hok]
  unfold netV at he
  rw [z, e1, e2, hok, ezL_len] at he
  rw [z, e1, e2] at ho
  exact ⟨⟨sa', fa', c1, c2, he, ho⟩, hb⟩
theorem atA (h : NAt W b sa fa sc fc n0 f0 ps fs) (hs : NSm ps fs) {i : Nat} (hi0 : i < n0) {E : Nat} (hE : (faI fs i fs.length).length = E) :
    Calls Try.prog 18 #[.agg #[.slice sa n0 sc, .slice fa f0 fc], .int .i64 (i : Int)] W fun e w' => (∃ ao c, e = .returned (.tuple #[.slice ao E c, .bool true])) ∧ Below W.heap.size W w' := by
  obtain ⟨rfl, rfl, _, lo, hi, hn, hh⟩ := h
  refine (facetsAtB lo hi sa fa sc fc ps fs (i : Int) hs.p hs.f hs.c W hn.net hn.slc hh).mono ?_
  rintro e w' ⟨⟨ao, c, he, _⟩, hb⟩
  have e1 : faOk ps fs (i : Int) = true := by
    unfold faOk
    rw [dec_yes hs.ok]
    simp [inB]
    omega
  rw [faL_yes e1, e1, hE] at he
  exact ⟨⟨ao, c, he⟩, hb⟩
theorem sameA {b' : Nat} {sb fb : Option Addr} {sc' fc' : Nat} (h : NAt W b sa fa sc fc n0 f0 ps fs) (h' : NAt W b' sb fb sc' fc' n0 f0 ps fs) (hs : NSm ps fs) :
    Calls Try.prog 11 #[.agg #[.slice sa n0 sc, .slice fa f0 fc], .agg #[.slice sb n0 sc', .slice fb f0 fc']] W fun e w' => e = .returned (.bool true) ∧ Below W.heap.size W w' := by
  obtain ⟨rfl, rfl, _, lo, hi, hn, hh⟩ := h
  obtain ⟨_, _, _, lo', hi', hn', hh'⟩ := h'
  exact sameNetN lo hi lo' hi' sa fa sb fb sc fc sc' fc' ps fs hs.p hs.f hs.c hs.ok.spots W hn.net hn'.net hh hh'
end
/-- the law's counts -/
structure Nums (n : Nat) (fs : List (List Int)) (C B S : Nat) : Prop where
  ed : (prL false fs).length = 2 * C
  bo : (prL true fs).length = B
  le : B ≤ 2 * C
  sm : sumTo fs fs.length = S
  si : (S : Int) = 2 * (C : Int) - ((B / 2 : Nat) : Int)
  fi : (fsts fs).length = C
  rb : (prL true (rnF fs n)).length = 2 * B
  rf : (rnF fs n).length = S
  eu : ((n + fs.length + C : Nat) : Int) - ((fsts (rnF fs n)).length : Int) + (S : Int) = (n : Int) - (C : Int) + (fs.length : Int)
theorem ShpF.nums {n : Nat} {fs : List (List Int)} (h : ShpF n fs) : ∃ C B S, Nums n fs C B S := by
  have hc := h.cnt
  have hf := h.fst
  simp only [cntB, Bool.and_eq_true, decide_eq_true_eq] at hc
  obtain ⟨⟨⟨⟨⟨h1, h2⟩, h3⟩, h4⟩, h5⟩, h6⟩ := hc
  have hl : (rnF fs n).length = sumTo fs fs.length := rnF'_len fs n fs.length
  refine ⟨(prL false fs).length / 2, (prL true fs).length, sumTo fs fs.length, by omega, rfl, by omega, rfl, h3, h4, h5, hl, ?_⟩
  rw [hf]
  unfold rnK at h6
  rw [h4, hl] at h6
  omega
theorem r8At1 (P : Nat) (a : Option Addr) (n c i k : Nat) (hn : n ≤ 48) (hi : i ≤ 100) (hk0 : 1 ≤ k) (hk2 : k ≤ 1000) (w : World) (h : CodeAt w P a n) :
    Calls Try.prog 15 #[.slice a n c, .int .i64 (i : Nat), .int .i64 (k : Nat)] w fun e w' => (∃ r : Nat, e = .returned (.int .i64 r) ∧ r < k) ∧ w' = w := by
  by_cases hk : 1 < k
  · exact r8At P a n c i k hn hi hk hk2 w h
  · obtain rfl : k = 1 := by omega
    clear hk hk0 hk2 h hn
    go_enter Try.func15, Try.ntmps15
    go_wp2_with fail
    go_ret
    exact ⟨⟨0, rfl, by omega⟩, rfl⟩
end Go.Proofs.Ytkjljajjjhfklaa

namespace Go.Fl
theorem fcan {x : Nat} (h : fin x = true) : can .f32 x = x ∧ nanB .f32 x = false := by
  rw [fin_isNum] at h
  exact ⟨isN.canN (show isN .f32 x = true from h), isN.nan (show isN .f32 x = true from h)⟩
end Go.Fl
namespace Go.Proofs.Ytkjljajjjhfklaa
open Go.RowKit Go.Fl
/-- what boxT tells -/
structure BoxF (k : Nat) : Prop where
  wn : isN .f32 (wdF k) = true
  wf : fin (can .f32 (wdF k)) = true
  pf : (bxP k).all finSp = true
  v1 : allF volT (bxP k) boxF 6 = true
  sz : fin (szF k) = true
  sk : fin (skF k) = true
  v2 : allF volT (bxP k) (boxF.map List.reverse) 6 = true
  op : fin (opF k) = true
  rf : (rnP' (bxP k) boxF).all finSp = true
  v3 : allF volT (rnP' (bxP k) boxF) (rnF boxF 8) 24 = true
  ls : fin (lsF k) = true
  six : isN .f64 (six64 k) = true
  two : isN .f64 (two64 k) = true
  thr : isN .f64 (thr64 k) = true
  sum : isN .f64 (sum64 k) = true
  sm5 : isN .f64 (sum65 k) = true
  skn : isN .f64 (skin64 k) = true
  g1 : gapB (w64 (opF k)) (neg64 k) = true
  g2 : gapB (w64 (szF k)) (six64 k) = true
  g3 : gapB (w64 (skF k)) (skin64 k) = true
  o1 : (FloatKind.f32.format.order (lsF k) 0 == some .gt) = true
  o2 : (FloatKind.f32.format.order (lsF k) (szF k) == some .lt) = true
theorem boxFa {k : Nat} (hk : k < 8) : BoxF k := by
  have h := List.all_eq_true.1 box_all k (List.mem_range.2 hk)
  unfold boxT at h
  simp only [Bool.and_eq_true] at h
  obtain ⟨⟨⟨⟨⟨⟨⟨⟨⟨⟨⟨⟨⟨⟨⟨⟨⟨⟨⟨⟨⟨h1, h2⟩, h3⟩, h4⟩, h5⟩, h6⟩, h7⟩, h8⟩, h9⟩, h10⟩, h11⟩, h12⟩, h13⟩, h14⟩, h15⟩, h16⟩, h17⟩, h18⟩, h19⟩, h20⟩, h21⟩, h22⟩ := h
  exact ⟨h1, h2, h3, h4, h5, h6, h7, h8, h9, h10, h11, h12, h13, h14, h15, h16, h17, h18, h19, h20, h21, h22⟩
theorem bxP_len (k : Nat) : (bxP k).length = 8 := boxP_len _ _ _ _
theorem bx_net {k : Nat} (h : BoxF k) : NSm (bxP k) boxF := ⟨okB_net (by rw [bxP_len]; exact box_ok) h.pf⟩
theorem bx_back {k : Nat} (h : BoxF k) : NSm (bxP k) (boxF.map List.reverse) := ⟨okB_net (by rw [bxP_len]; exact (Shp.f (.inl ⟨rfl, rfl⟩) : ShpF 8 boxF).bk) h.pf⟩
theorem bx_rnd {k : Nat} (h : BoxF k) : NSm (rnP (bxP k) boxF) (rnF boxF 8) := ⟨okB_net (by rw [rnP_len, bxP_len]; exact box_round) (by rw [rnP_C]; exact h.rf)⟩
theorem vol_of {ps : List Sp} {fs : List (List Int)} (hs : NSm ps fs) (h0 : (prL true fs).length = 0) {n : Nat} (hn : fs.length = n) (hv : allF volT ps fs n = true) (hf : fin (fdiv (triF volG ps fs n) 1086324736) = true) :
    volO ps fs = true ∧ volV ps fs = fdiv (triF volG ps fs n) 1086324736 := by
  subst hn
  have hc : volC ps fs = true := by unfold volC; rw [hs.v, hv, h0]; rfl
  refine ⟨by unfold volO; rw [hc, hf]; rfl, ?_⟩
  unfold volV
  rw [if_pos hc, ifFin, if_pos hf]
theorem area_of {ps : List Sp} {fs : List (List Int)} (hs : NSm ps fs) {n : Nat} (hn : fs.length = n) (hf : fin (triF areaG ps fs n) = true) : areaO ps fs = true ∧ areaV ps fs = triF areaG ps fs n := by
  subst hn
  refine ⟨by unfold areaO; rw [hs.v, hf]; rfl, ?_⟩
  unfold areaV
  rw [if_pos hs.v, ifFin, if_pos hf]
theorem volT' {W : World} {b : Nat} {sa fa : Option Addr} {sc fc n0 f0 : Nat} {ps : List Sp} {fs : List (List Int)} (h : NAt W b sa fa sc fc n0 f0 ps fs) (hs : NSm ps fs) {v : Nat} (hq : volO ps fs = true ∧ volV ps fs = v) (hv : fin v = true) :
    Calls Try.prog 13 #[.agg #[.slice sa n0 sc, .slice fa f0 fc]] W fun e w' => e = .returned (.tuple #[.float .f32 v, .bool true]) ∧ Below W.heap.size W w' := by
  refine (volA h hs hq.1).mono ?_
  rintro e w' ⟨⟨r, he, hr⟩, hb⟩
  obtain ⟨rfl, _⟩ := fin_can (show F32 r v from hr.trans hq.2) hv
  exact ⟨he, hb⟩
theorem boxCall {k : Nat} (h : BoxF k) {x : Nat} (hx : wdF k = x) (w : World) :
    Calls Try.prog 21 #[.float .f32 x, .float .f32 1073741824, .float .f32 1077936128] w fun e w' => (∃ sa fa c1 c2, e = .returned (.tuple #[.agg #[.slice sa 8 c1, .slice fa 6 c2], .bool true]) ∧ ONet w' w.heap.size w'.heap.size sa fa (bxP k) boxF) ∧ Below w.heap.size w w' := by
  subst hx
  refine (boxNetN (wdF k) 1073741824 1077936128 h.wf (by decide +kernel) (by decide +kernel) w).mono ?_
  rintro e w' ⟨⟨sa, fa, c1, c2, he, ho⟩, hb⟩
  rw [boxP_len] at he
  exact ⟨⟨sa, fa, c1, c2, he, ho⟩, hb⟩
theorem gridCall (m n : Nat) (hm : m < 4) (hn : n < 4) {N F : Nat} (hN : (n + 1 + 1) * (m + 1 + 1) = N) (hF : (m + 1) * (n + 1) = F) {x y : Int} (hx : x = (m + 1 : Nat)) (hy : y = (n + 1 : Nat)) (w : World) :
    Calls Try.prog 22 #[.int .i64 x, .int .i64 y] w fun e w' => (∃ sa fa c1 c2, e = .returned (.tuple #[.agg #[.slice sa N c1, .slice fa F c2], .bool true]) ∧ ONet w' w.heap.size w'.heap.size sa fa (gridP (m + 1) N) (gridF (m + 1) (n + 1))) ∧ Below w.heap.size w w' := by
  subst hx hy hN hF
  refine (gridNetN (m + 1) (n + 1) (by omega) (by omega) (by omega) (by omega) w).mono ?_
  rintro e w' ⟨⟨sa, fa, c1, c2, he, ho⟩, hb⟩
  rw [gridP_len, gridF_len] at he
  exact ⟨⟨sa, fa, c1, c2, he, ho⟩, hb⟩
theorem gapE {a b : Nat} (h : gapB a b = true) : (isN .f64 (fop .sub .f64 a b) = true ∧ isN .f64 (fop .sub .f64 b a) = true) ∧ (FloatKind.f64.format.order (gapM a b) 4576918229304087675 == some .lt) = true := by
  unfold gapB at h
  simp only [Bool.and_eq_true] at h
  exact ⟨h.1, h.2⟩
/-- the law's numbers of a box, as the walk meets them -/
structure BoxN (k W SZ SK OP LS W6 SZ6 SK6 OP6 SIX TWO THR SM SM5 SKN NG : Nat) : Prop where
  w : wdF k = W
  sz : szF k = SZ
  sk : skF k = SK
  op : opF k = OP
  ls : lsF k = LS
  q : ∀ x, mop .quo .f32 (floatOfInt .f32 (1 + (k : Int))) 1073741824 x = W
  qd : mdr .quo .f32 (floatOfInt .f32 (1 + (k : Int))) 1073741824 = 0
  cw : ∀ x, mcv .f32 .f64 W x = W6
  cwd : mcd .f32 .f64 W = 0
  cz : ∀ x, mcv .f32 .f64 SZ x = SZ6
  czd : mcd .f32 .f64 SZ = 0
  ck : ∀ x, mcv .f32 .f64 SK x = SK6
  ckd : mcd .f32 .f64 SK = 0
  co : ∀ x, mcv .f32 .f64 OP x = OP6
  cod : mcd .f32 .f64 OP = 0
  m6 : ∀ x, mop .mul .f64 4618441417868443648 W6 x = SIX
  m6d : mdr .mul .f64 4618441417868443648 W6 = 0
  m2 : ∀ x, mop .mul .f64 4611686018427387904 W6 x = TWO
  m2d : mdr .mul .f64 4611686018427387904 W6 = 0
  m3 : ∀ x, mop .mul .f64 4613937818241073152 W6 x = THR
  m3d : mdr .mul .f64 4613937818241073152 W6 = 0
  a1 : ∀ x, mop .add .f64 TWO THR x = SM
  a1d : mdr .add .f64 TWO THR = 0
  a2 : ∀ x, mop .add .f64 SM 4618441417868443648 x = SM5
  a2d : mdr .add .f64 SM 4618441417868443648 = 0
  m5 : ∀ x, mop .mul .f64 4611686018427387904 SM5 x = SKN
  m5d : mdr .mul .f64 4611686018427387904 SM5 = 0
  ng : Op.negFloat .f64 SZ6 = NG
  g1 : gapB OP6 NG = true
  g2 : gapB SZ6 SIX = true
  g3 : gapB SK6 SKN = true
  o1 : (FloatKind.f32.format.order LS 0 == some .gt) = true
  o2 : (FloatKind.f32.format.order LS SZ == some .lt) = true
theorem boxNums {k : Nat} (h : BoxF k) : ∃ W SZ SK OP LS W6 SZ6 SK6 OP6 SIX TWO THR SM SM5 SKN NG, BoxN k W SZ SK OP LS W6 SZ6 SK6 OP6 SIX TWO THR SM SM5 SKN NG := by
  have e1 : (1 : Int) + (k : Int) = ((k + 1 : Nat) : Int) := by omega
  obtain ⟨q1, q2⟩ := run_fopN (op := .quo) (K := .f32) (x := floatOfInt .f32 ((k + 1 : Nat) : Int)) (y := 1073741824) h.wn
  have hw := run_wid64 (isN.nan h.wn)
  have hz := run_wid64 (fcan h.sz).2
  have hk := run_wid64 (fcan h.sk).2
  have ho := run_wid64 (fcan h.op).2
  obtain ⟨a1, a2⟩ := run_fopN (op := .mul) (K := .f64) (x := 4618441417868443648) (y := w64 (wdF k)) h.six
  obtain ⟨b1, b2⟩ := run_fopN (op := .mul) (K := .f64) (x := 4611686018427387904) (y := w64 (wdF k)) h.two
  obtain ⟨c1, c2⟩ := run_fopN (op := .mul) (K := .f64) (x := 4613937818241073152) (y := w64 (wdF k)) h.thr
  obtain ⟨d1, d2⟩ := run_fopN (op := .add) (K := .f64) (x := two64 k) (y := thr64 k) h.sum
  obtain ⟨f1, f2⟩ := run_fopN (op := .add) (K := .f64) (x := sum64 k) (y := 4618441417868443648) h.sm5
  obtain ⟨g1, g2⟩ := run_fopN (op := .mul) (K := .f64) (x := 4611686018427387904) (y := sum65 k) h.skn
  exact ⟨wdF k, szF k, skF k, opF k, lsF k, w64 (wdF k), w64 (szF k), w64 (skF k), w64 (opF k), six64 k, two64 k, thr64 k, sum64 k, sum65 k, skin64 k, neg64 k,
    ⟨rfl, rfl, rfl, rfl, rfl, by rw [e1]; exact q1, by rw [e1]; exact q2, hw.1, hw.2, hz.1, hz.2, hk.1, hk.2, ho.1, ho.2, a1, a2, b1, b2, c1, c2, d1, d2, f1, f2, g1, g2, rfl, h.g1, h.g2, h.g3, h.o1, h.o2⟩⟩
theorem szF_eq (k : Nat) : szF k = fdiv (triF volG (bxP k) boxF 6) 1086324736 := by unfold szF; rfl
theorem opF_eq (k : Nat) : opF k = fdiv (triF volG (bxP k) (boxF.map List.reverse) 6) 1086324736 := by unfold opF; rfl
theorem lsF_eq (k : Nat) : lsF k = fdiv (triF volG (rnP' (bxP k) boxF) (rnF boxF 8) 24) 1086324736 := by unfold lsF; rfl
theorem skF_eq (k : Nat) : skF k = triF areaG (bxP k) boxF 6 := by unfold skF; rfl
theorem bxSz {k SZ : Nat} (h : BoxF k) (e : szF k = SZ) : (volO (bxP k) boxF = true ∧ volV (bxP k) boxF = SZ) ∧ fin SZ = true := by
  subst e
  have := h.sz
  rw [szF_eq] at this ⊢
  exact ⟨vol_of (n := 6) (bx_net h) prL_box.1 rfl h.v1 this, this⟩
theorem bxOp {k OP : Nat} (h : BoxF k) (e : opF k = OP) : (volO (bxP k) (boxF.map List.reverse) = true ∧ volV (bxP k) (boxF.map List.reverse) = OP) ∧ fin OP = true := by
  subst e
  have := h.op
  rw [opF_eq] at this ⊢
  exact ⟨vol_of (n := 6) (bx_back h) prL_box.2.1 rfl h.v2 this, this⟩
theorem bxSk {k SK : Nat} (h : BoxF k) (e : skF k = SK) : (areaO (bxP k) boxF = true ∧ areaV (bxP k) boxF = SK) ∧ isN .f32 SK = true := by
  subst e
  have h2 := h.sk
  have h3 : ∀ x, fin x = true → isN .f32 x = true := fun x hx => by rw [fin_isNum] at hx; exact hx
  have := h3 _ h2
  clear h3
  rw [skF_eq] at this h2 ⊢
  exact ⟨area_of (n := 6) (bx_net h) rfl h2, this⟩
theorem bxLs {k LS : Nat} (h : BoxF k) (e : lsF k = LS) : (volO (rnP (bxP k) boxF) (rnF boxF 8) = true ∧ volV (rnP (bxP k) boxF) (rnF boxF 8) = LS) ∧ fin LS = true := by
  subst e
  have hl : (rnF boxF 8).length = 24 := by decide +kernel
  have h3 := h.v3
  have h4 := h.ls
  rw [lsF_eq] at h4 ⊢
  rw [← rnP_C] at h3 h4 ⊢
  exact ⟨vol_of (bx_rnd h) prL_box.2.2 hl h3 h4, h4⟩
theorem bxRl (k : Nat) : (rnP (bxP k) boxF).length = 26 ∧ (rnF boxF (bxP k).length).length = 24 := by
  rw [rnP_len, bxP_len]
  decide +kernel
/-- the law's numbers of tiles -/
theorem gridNums {m n : Nat} (hm : m < 4) (hn : n < 4) {N F : Nat} (hN : (n + 1 + 1) * (m + 1 + 1) = N) (hF : (m + 1) * (n + 1) = F) :
    ∃ FL FL6 FI, NSm (gridP (m + 1) N) (gridF (m + 1) (n + 1)) ∧ (areaO (gridP (m + 1) N) (gridF (m + 1) (n + 1)) = true ∧ areaV (gridP (m + 1) N) (gridF (m + 1) (n + 1)) = FL) ∧ isN .f32 FL = true ∧ (∀ x, mcv .f32 .f64 FL x = FL6) ∧ mcd .f32 .f64 FL = 0 ∧ floatOfInt .f64 (F : Int) = FI ∧ gapB FL6 FI = true := by
  subst hN hF
  have h := List.all_eq_true.1 (List.all_eq_true.1 grid_all m (List.mem_range.2 hm)) n (List.mem_range.2 hn)
  unfold gridT at h
  simp only [Bool.and_eq_true] at h
  have hs : NSm (gridP (m + 1) ((n + 1 + 1) * (m + 1 + 1))) (gridF (m + 1) (n + 1)) := ⟨okB_net (by rw [gridP_len]; exact grid_okB (m + 1) (n + 1) (by omega) (by omega) (by omega) (by omega)) (gridP_fin (m + 1) _ (by omega) (Nat.mul_le_mul_right _ (by omega)))⟩
  have hw := run_wid64 (fcan h.1).2
  have hf := h.1
  rw [fin_isNum] at hf
  exact ⟨flF (m + 1) (n + 1), w64 (flF (m + 1) (n + 1)), _, hs, area_of hs (gridF_len _ _) h.1, hf, hw.1, hw.2, rfl, h.2⟩
end Go.Proofs.Ytkjljajjjhfklaa

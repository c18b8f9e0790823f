/- SpeedPlan, the program's: the main way. -/
import Derived.Test.YtfpkdnopbnppmaaSpI
import Derived.Deep.Cut
import Derived.Deep.CutRange
import Derived.Laws.EntriesVeiled
namespace Go.Fl
open Go.RowKit
/-- the walk's world behind the first stores: the boxes and the row -/
structure Box4 (w : World) (s n vb Bv Br Bc rb f : Nat) : Prop where
  v : w.cell? ⟨Bv, 0, none⟩ = some (.slice (some ⟨vb, 0, none⟩) (n + 1) (n + 1))
  r : w.cell? ⟨Br, 0, none⟩ = some (.float .f32 rb)
  c : w.cell? ⟨Bc, 0, none⟩ = some (.func (.func f) #[] #[.pointer (some ⟨Bv, 0, none⟩), .pointer (some ⟨Br, 0, none⟩)])
  d1 : vb ≠ Bv
  d2 : vb ≠ Br
  d3 : vb ≠ Bc
  s1 : s ≤ vb
  s2 : s ≤ Bv
  s3 : s ≤ Br
  s4 : s ≤ Bc
theorem Box4.same {w w' : World} {s n vb Bv Br Bc rb f : Nat} (h : Box4 w s n vb Bv Br Bc rb f) (h1 : w'.heap[Bv]? = w.heap[Bv]?) (h2 : w'.heap[Br]? = w.heap[Br]?) (h3 : w'.heap[Bc]? = w.heap[Bc]?) : Box4 w' s n vb Bv Br Bc rb f :=
  ⟨(World.cell?_of_block (w := w) (a := ⟨Bv, 0, none⟩) h1).trans h.v, (World.cell?_of_block (w := w) (a := ⟨Br, 0, none⟩) h2).trans h.r, (World.cell?_of_block (w := w) (a := ⟨Bc, 0, none⟩) h3).trans h.c, h.d1, h.d2, h.d3, h.s1, h.s2, h.s3, h.s4⟩
theorem Box4.set {w : World} {s n vb Bv Br Bc rb f : Nat} (h : Box4 w s n vb Bv Br Bc rb f) (i : Nat) (v : Value) : Box4 (w.setCell ⟨vb, i, none⟩ v) s n vb Bv Br Bc rb f :=
  h.same (Below.heap_setCell _ _ _ _ h.d1.symm) (Below.heap_setCell _ _ _ _ h.d2.symm) (Below.heap_setCell _ _ _ _ h.d3.symm)
end Go.Fl
namespace Go.Proofs.Ytfpkdnopbnppmaa
open Go.RowKit Go.Fl Go.Shelf
def bitOf : Option Value → Nat
  | some (.float _ x) => x
  | _ => 0
theorem RowV.bits {w : World} {b : Nat} {V : List Nat} (h : RowV w b V) : ∃ xs : List Nat, xs.length = V.length ∧ xs.map (can .f32) = V ∧ ∀ i, i < xs.length → w.cell? ⟨b, 0 + i, none⟩ = some (.float .f32 (nF xs i)) := by
  refine ⟨(List.range V.length).map fun i => bitOf (w.cell? ⟨b, i, none⟩), by simp, ?_, ?_⟩
  · apply List.ext_getElem
    · simp
    · intro i h1 h2
      obtain ⟨x, c, e⟩ := h.2 i h2
      have e2 : can .f32 x = nF V i := e
      simp only [List.getElem_map, List.getElem_range, c, bitOf, e2]
      simp [nF, h2]
  · intro i hi
    simp only [List.length_map, List.length_range] at hi
    obtain ⟨x, c, e⟩ := h.2 i hi
    rw [Nat.zero_add, c]
    simp [nF, hi, c, bitOf]
theorem implFinite {w : World} {b n c : Nat} {V : List Nat} (h : RowV w b V) (hl : V.length = n) (hm : n ≤ 1000) :
    Calls Try.prog 16 #[.slice (some ⟨b, 0, none⟩) n c] w fun e w' => e = .returned (.bool (V.all fin)) ∧ ∃ q, w' = w.drewN q := by
  obtain ⟨xs, h1, h2, h3⟩ := RowV.bits h
  have hs : SlF w (.slice (some ⟨b, 0, none⟩) n c) xs := .inr ⟨b, 0, c, by rw [h1, hl], by omega, h3⟩
  have := areFinite xs _ w hs
  rw [all_canF, h2] at this
  exact this
theorem RowV.rep {w : World} {b x m : Nat} {T : TypeId} (h : OwnC w b (repCs x m m).toArray T) : RowV w b (List.replicate m (can .f32 x)) := by
  have h1 := OwnF1.rep h
  refine ⟨by have := h1.1; rw [List.length_replicate] at this ⊢; exact this, fun i hi => ⟨x, ?_, ?_⟩⟩
  · have := h1.2 i (by rw [List.length_replicate] at hi ⊢; exact hi)
    rw [this]
    rw [List.length_replicate] at hi
    simp [hi]
  · rw [List.length_replicate] at hi
    show can .f32 x = nF (List.replicate m (can .f32 x)) i
    simp [nF, hi]
theorem repF1 (g c x n : Nat) (hn : n ≤ 64) (w : World) (hc : w.cell? ⟨g, 0, none⟩ = some (.float .f32 x)) :
    Calls Try.prog 12 #[.slice (some ⟨g, 0, none⟩) 1 c, .int .i64 ((n : Int) + 1)] w fun e w' => (∃ b, e = .returned (.slice (some ⟨b, 0, none⟩) (n + 1) (n + 1)) ∧ b = w.heap.size ∧ b < w'.heap.size ∧ RowV w' b (List.replicate (n + 1) (can .f32 x))) ∧ Below w.heap.size w w' := by
  have h := repF g c x (n + 1) (by omega) (by omega) w hc
  rw [Int.natCast_succ] at h
  exact h.mono fun e w' ⟨⟨b, h1, h2, h3, h4⟩, h5⟩ => ⟨⟨b, h1, h2, h3, RowV.rep h4⟩, h5⟩
theorem rep_set (n mo : Nat) (h : 1 ≤ n) : ((List.replicate (n + 1) mo).set 0 0).set n 0 = spV0 n mo := by
  obtain ⟨k, rfl⟩ : ∃ k, n = k + 1 := ⟨n - 1, by omega⟩
  rw [List.replicate_succ, List.set_cons_zero, List.set_cons_succ, List.replicate_succ', List.set_append_right _ _ (by simp)]
  simp [spV0]
def bodyQ (P : Program) (fn : Func) (R : Ending → World → Prop) : Exit → Act → World → Prop
  | .normal, a, w => LeavesInM Fence.wide 3 P fn a.tmps R a.defers .returning w
  | .ret, a, w => LeavesInM Fence.wide 3 P fn a.tmps R a.defers .returning w
  | .exit _, _, _ => False
  | .goto _, _, _ => False
  | .panic _, _, _ => False
  | .outgrown, _, _ => False
theorem bodyQ_to {P : Program} {fn : Func} {R : Ending → World → Prop} : ∀ e a w, bodyQ P fn R e a w → bodyPostM Fence.wide 3 P fn R e a w
  | .normal, _, _, h => h
  | .ret, _, _, h => h
  | .exit _, _, _, h => h.elim
  | .goto _, _, _, h => h.elim
  | .panic _, _, _, h => h.elim
  | .outgrown, _, _, h => h.elim
theorem spDn_step {bs ls U V : List Nat} {ri j i lx m : Nat} {pre : List {x : Nat × Nat // x.1 < m}} (hxi : i < m) (hls : ls = bs.map (can .f32)) (hjb : j = bs.length) (hij : i < j)
    (hVk : ∀ k, pre.map Subtype.val = bkw bs j k → V = spDn ls ri j U k) :
    ∀ k, (pre ++ [(⟨(i, lx), hxi⟩ : {x : Nat × Nat // x.1 < m})]).map Subtype.val = bkw bs j k → (if flt (spR ri (can .f32 lx) (nF V (i + 1))) (nF V i) then V.set i (spR ri (can .f32 lx) (nF V (i + 1))) else V) = spDn ls ri j U k := fun k hk => by
  have hk1 : k = pre.length + 1 := by
    have := congrArg List.length hk
    simp [bkw_length] at this
    omega
  subst hk1
  rw [List.map_append, bkw_succ] at hk
  obtain ⟨e1, e2⟩ := List.append_inj' hk rfl
  simp only [List.map_cons, List.map_nil, List.cons.injEq, Prod.mk.injEq, and_true] at e2
  obtain ⟨ei, el⟩ := e2
  have hV := hVk _ e1
  have hlx : nF ls i = can .f32 lx := by
    rw [el, ← ei, hls]
    have : i < bs.length := by omega
    simp [nF, this]
  show _ = if _ then _ else _
  rw [← hV, ← ei, hlx]
attribute [local go_sem] Oper.semAt_some
/-- the results behind a loop over an iterator: the deferred block is taken, then the word -/
theorem ret_back {P : Program} {fn : Func} {R : Ending → World → Prop} {D : Nat} {t : Array Value} {w : World} (hK : w.heap[D]? = some (.deferred (some [])))
    (hr : fn.results = #[.tmp 6, .tmp 7, .tmp 8]) (h : R (.returned (.tuple #[t.getD 6 undef, t.getD 7 undef, t.getD 8 undef])) (w.putObj D (.deferred none))) : bodyQ P fn R .ret { tmps := t, defers := [{ target := .collected D, args := #[] }] } w :=
  ⟨by simp, .inl ⟨_, _, rfl, run_takeDeferred hK, ⟨_, results_tmp3 hr _ _ _, h⟩⟩⟩
theorem OwnF1.put {w : World} {b D : Nat} {V : List Nat} (h : OwnF1 w b V) (hb : b < D) (o : Obj) : OwnF1 (w.putObj D o) b V :=
  h.far (lo := b) (hi := b + 1) (fun c h1 h2 => World.putObj_heap_other (by omega)) (Nat.le_refl _) (Nat.lt_succ_self _)
theorem OwnFrom.rowBox {α : Type} {B vb Bv Br Bc s n rb f m : Nat} {Pp : α → List Nat → Prop} (h1 : vb < B) (h2 : Bv < B) (h3 : Br < B) (h4 : Bc < B) :
    OwnFrom B (fun (pre : α) W => (∃ V, V.length = m ∧ RowV W vb V ∧ Pp pre V) ∧ Box4 W s n vb Bv Br Bc rb f) := fun pre A C row hs hg hr => by
  obtain ⟨⟨V, hl, hV, hp⟩, hX⟩ := hs
  have key : ∀ c, c < B → c < A.heap.size → C.heap[c]? = A.heap[c]? := fun c hc hs => hg.block c hs (fun e => by have := (hr c e.symm).1; omega)
  exact ⟨⟨V, hl, hV.far (lo := vb) (hi := vb + 1) (fun c a b => key c (by omega) (by have := hV.1.lt; omega)) (Nat.le_refl _) (by omega), hp⟩,
    hX.same (key _ h2 (World.block_lt_of_cell? A _ hX.v)) (key _ h3 (World.block_lt_of_cell? A _ hX.r)) (key _ h4 (World.block_lt_of_cell? A _ hX.c))⟩
set_option maxHeartbeats 4000000 in
set_option maxRecDepth 100000 in
theorem implSpeedYes (lo hi : Nat) (a : Option Addr) (bs : List Nat) (ca mb rb : Nat) (hn : bs.length ≤ 1048576) (w : World) (hr : RdF w lo hi a bs) (hh : hi ≤ w.heap.size)
    (h1 : 1 ≤ bs.length) (h64 : bs.length ≤ 64) (hA : (bs.map (can .f32)).all above = true) (hM : above (can .f32 mb) = true) (hR : above (can .f32 rb) = true) :
    Calls Try.prog 6 #[.slice a bs.length ca, .float .f32 mb, .float .f32 rb] w
      (RetS (spOk (bs.map (can .f32)) (can .f32 mb) (can .f32 rb)) (spEnd (bs.map (can .f32)) (can .f32 mb) (can .f32 rb)) (spSum (bs.map (can .f32)) (spEnd (bs.map (can .f32)) (can .f32 mb) (can .f32 rb)) bs.length) w) := by
  obtain ⟨ls, hls⟩ : ∃ ls, ls = bs.map (can .f32) := ⟨_, rfl⟩
  obtain ⟨mo, hmo⟩ : ∃ mo, mo = can .f32 mb := ⟨_, rfl⟩
  obtain ⟨ri, hri⟩ : ∃ ri, ri = can .f32 rb := ⟨_, rfl⟩
  have hll : ls.length = bs.length := by rw [hls]; simp
  have hall := all_can bs
  rw [← hls] at hA hall
  rw [← hmo] at hM
  rw [← hri] at hR
  rw [hA] at hall
  have h2 : ([mb, rb].all fun x => above (can .f32 x)) = true := by
    simp only [List.all_cons, List.all_nil, Bool.and_true, Bool.and_eq_true]
    exact ⟨by rw [← hmo]; exact hM, by rw [← hri]; exact hR⟩
  rw [← hls, ← hmo, ← hri]
  have HR := Lib.hid hr
  have HLS := Lib.hid hls
  have HMO := Lib.hid hmo
  have HRI := Lib.hid hri
  have HLL := Lib.hid hll
  have HA := Lib.hid hA
  have HM := Lib.hid hM
  have HRR := Lib.hid hR
  have HALL := Lib.hid hall
  have H2 := Lib.hid h2
  obtain ⟨n, hnn⟩ : ∃ n, n = bs.length := ⟨_, rfl⟩
  rw [← hnn] at hn h1 h64 ⊢
  have HN := Lib.hid hnn
  clear hr hls hmo hri hll hnn hA hM hR hall h2
  have hi1 : ¬ (n : Int) < 1 := by omega
  have hi2 : ¬ (64 : Int) < (n : Int) := by omega
  have HS1 := Lib.hid (fun (v : Value) (T : TypeId) => RdF.slF (ca := ca) (HR.out.far (w' := w.alloc (.cells #[v] T)) (Far.below (Below.alloc (Below.refl _ _) (Nat.le_refl _) _) hh)) HN.out h1 h64)
  refine (callsIn_wide (n := 3)).1 (callsIn_of_wp_marks Try.func6 rfl trivial (wpIn_wide.2 (wp_mono ?_ bodyQ_to)) rfl)
  simp only [Try.ntmps6, List.size_toArray, List.length_cons, List.length_nil, Nat.reduceAdd, Nat.reduceSub, Array.replicate_succ, Array.replicate_zero, List.push_toArray, List.append_toArray, List.nil_append, List.cons_append]
  go_wp2_with fail
  refine (areMore bs _ _ (HS1.out _ _)).mono ?_
  rintro e w' ⟨rfl, n2, rfl⟩
  rw [HALL.out]
  go_wp2_with fail
  refine (areMore [mb, rb] _ _ ?_).mono ?_
  · exact slF_new _ [mb, rb] _ _ _ (by simp) (by simp) _ rfl rfl
  rintro e w' ⟨rfl, n3, rfl⟩
  rw [H2.out]
  have HW1 := Lib.hid (show IntKind.i64.wrap ((n : Int) + 1) = ((n + 1 : Nat) : Int) by rw [IntKind.wrap_i64]; omega)
  go_wp2_with fail
  refine (repF1 _ _ mb n h64 _ ?_).mono ?_
  · rw [World.cell?_drewN, World.cell?_alloc_at _ _ _ _ (by simp)]; rfl
  rintro e w5 ⟨⟨vb, rfl, hvb, hlt, hrow⟩, hb5⟩
  have z5 := hb5.size
  simp at z5 hvb
  obtain ⟨x0, c0, _⟩ := hrow.2 0 (by simp)
  obtain ⟨xn, cn, _⟩ := hrow.2 n (by simp)
  have f0 := hrow.1.free 0
  have fn' := hrow.1.free n
  have k0 : (0 : Int) ≤ (n : Int) := by omega
  have k1 : (n : Int) < (n : Int) + 1 := by omega
  have hne : ¬ n = 0 := by omega
  have hB5 : Below w.heap.size w w5 := by (repeat (first | exact Below.refl _ _ | assumption | refine below_dr ?_ _ | refine Below.alloc ?_ (by first | omega | (simp; done) | (simp; omega)) _ | refine Below.setCell ?_ (by first | omega | (simp; done) | (simp; omega)) _ | refine Below.trans ?_ (Below.mono (by assumption) (by first | omega | (simp; done) | (simp; omega)))))
  have HB5 := Lib.hid hB5
  have HROW := Lib.hid hrow
  have crise : w5.cell? ⟨w.heap.size, 0, none⟩ = some (.float .f32 rb) := by
    refine (hb5.cell (p := ⟨w.heap.size, 0, none⟩) (by simp; omega)).trans ?_
    rw [World.cell?_drewN, World.cell?_alloc_past _ _ _ (by simp; omega), World.cell?_alloc_past _ _ _ (by simp), World.cell?_alloc_at _ _ _ _ rfl]; rfl
  have HCR := Lib.hid crise
  have hvs : w.heap.size < vb := by omega
  have zz5 : w.heap.size < w5.heap.size := by omega
  clear hrow hB5 hb5 crise hvb z5
  go_wp2_with fail
  go_cut [10] from 47 to 52 (fun u10 wx => u10 = .pointer (some ⟨w5.heap.size, 0, none⟩) ∧ Hid (RowV wx vb (spV0 n mo)) ∧ Hid (Below w.heap.size w wx) ∧ Hid (wx.heap.size = w5.heap.size + 1) ∧ Hid (wx.cell? ⟨w5.heap.size, 0, none⟩ = some (.slice (some ⟨vb, 0, none⟩) (n + 1) (n + 1))) ∧ Hid (wx.cell? ⟨w.heap.size, 0, none⟩ = some (.float .f32 rb)))
  case first =>
    go_region_law (fail)
    all_goals (try go_wp2_with fail)
    all_goals go_meet
    all_goals
      refine ⟨rfl, Lib.hid ?_, Lib.hid ?_, Lib.hid (by simp), Lib.hid ?_, Lib.hid ?_⟩
      · rw [← rep_set n mo h1]
        have hrw : RowV w5 vb (List.replicate (n + 1) mo) := by rw [HMO.out]; exact HROW.out
        exact ((hrw.set (i := 0) (by simp) F32.zero).set (i := n) (by simp) F32.zero).below (B := w5.heap.size) (by (repeat (first | exact Below.refl _ _ | assumption | refine below_dr ?_ _ | refine Below.alloc ?_ (by first | omega | (simp; done) | (simp; omega)) _ | refine Below.setCell ?_ (by first | omega | (simp; done) | (simp; omega)) _ | refine Below.trans ?_ (Below.mono (by assumption) (by first | omega | (simp; done) | (simp; omega)))))) hlt
      · have := HB5.out; (repeat (first | exact Below.refl _ _ | assumption | refine below_dr ?_ _ | refine Below.alloc ?_ (by first | omega | (simp; done) | (simp; omega)) _ | refine Below.setCell ?_ (by first | omega | (simp; done) | (simp; omega)) _ | refine Below.trans ?_ (Below.mono (by assumption) (by first | omega | (simp; done) | (simp; omega)))))
      · rw [World.cell?_drew, World.cell?_alloc_at _ _ _ _ (by simp)]; rfl
      · rw [World.cell?_drew, World.cell?_alloc_past _ _ _ (by simp; omega), World.cell?_setCell_other _ _ _ _ (by first | omega | (simp; done) | (simp; omega)), World.cell?_setCell_other _ _ _ _ (by first | omega | (simp; done) | (simp; omega))]; exact HCR.out
  case rest =>
    obtain ⟨rfl, HV, HB, HZ, HCV, HCR2⟩ := hcut
    go_wp2_with fail
    have hz := HZ.out
    have HBX : Hid (Box4 (wc.alloc (.cells #[.func (.func 13) #[] #[.pointer (some ⟨w5.heap.size, 0, none⟩), .pointer (some ⟨w.heap.size, 0, none⟩)]] 41)) w.heap.size n vb w5.heap.size w.heap.size wc.heap.size rb 13) := Lib.hid
      ⟨(World.cell?_alloc_past _ _ _ (show w5.heap.size < wc.heap.size by omega)).trans HCV.out, (World.cell?_alloc_past _ _ _ (show w.heap.size < wc.heap.size by omega)).trans HCR2.out, (World.cell?_alloc_at _ _ _ _ rfl).trans rfl, by omega, by omega, by omega, by omega, by omega, by omega, by omega⟩
    have HV0 := Lib.hid (RowV.below HV.out (Below.alloc (Below.refl wc.heap.size wc) (Nat.le_refl _) (.cells #[.func (.func 13) #[] #[.pointer (some ⟨w5.heap.size, 0, none⟩), .pointer (some ⟨w.heap.size, 0, none⟩)]] 41)) (show vb < wc.heap.size by omega))
    have hs1 : spV0 n mo = spUp ls ri (spV0 n mo) 0 := rfl
    rw [hs1] at HV0
    have HB1 := Lib.hid (HB.out.alloc HB.out.size (.cells #[.func (.func 13) #[] #[.pointer (some ⟨w5.heap.size, 0, none⟩), .pointer (some ⟨w.heap.size, 0, none⟩)]] 41))
    clear hs1 c0 cn f0 fn' hz
    go_loopw [12, 13, 14, 55] (fun _ _ _ i wr => ∃ (j : Nat), j ≤ n ∧ i = .int .i64 j ∧ Hid (RowV wr vb (spUp ls ri (spV0 n mo) j)) ∧ Hid (Below w.heap.size w wr) ∧ Hid (Box4 wr w.heap.size n vb w5.heap.size w.heap.size wc.heap.size rb 13) ∧ wc.heap.size < wr.heap.size) (fun _ _ _ i _ => n - (intOf i).toNat)
    case atStart => exact ⟨0, by omega, rfl, HV0, HB1, HBX, by simp⟩
    case round =>
      obtain ⟨j, hj, rfl, HV, HB, HX4, hzr⟩ := hrel
      have hul : (spUp ls ri (spV0 n mo) j).length = n + 1 := by rw [spUp_len, spV0_len mo h1]
      by_cases hlt2 : j < n
      · obtain ⟨b1, o1, rfl, q1, q2, hc⟩ := (HR.out.far (Far.below HB.out hh)) (by rw [← HN.out]; omega)
        have c1 := hc j (by rw [← HN.out]; exact hlt2)
        obtain ⟨lx, hx⟩ : ∃ x, x = nF bs j := ⟨_, rfl⟩
        rw [← hx] at c1
        have hxx : can .f32 lx = nF ls j := by
          rw [hx, HLS.out]
          have : j < bs.length := by rw [← HN.out]; exact hlt2
          simp [nF, this]
        obtain ⟨vy, c3, hvy⟩ := HV.out.2 (j + 1) (by omega)
        have HX := Lib.hid hxx
        have HVY := Lib.hid hvy
        have cv := HX4.out.v
        have cc := HX4.out.c
        have k2 : (0 : Int) ≤ (j : Int) := by omega
        have k3 : (j : Int) < (n : Int) := by omega
        have k4 : (j : Int) + 1 < (n : Int) + 1 := by omega
        have hbw : vb < wr.heap.size := HV.out.1.lt
        have HRE := Lib.hid (reach j (n + 1) (n + 1) vb w5.heap.size w.heap.size lx rb ri _ (by omega) hul (by omega) wr HX4.out.v HX4.out.r HRI.out.symm (HV.out.2 j (by omega)))
        clear hc hx hxx hvy
        have hup : spUp ls ri (spV0 n mo) (j + 1) = if flt (spR ri (nF ls j) (nF (spUp ls ri (spV0 n mo) j) j)) (nF (spUp ls ri (spV0 n mo) j) (j + 1)) then (spUp ls ri (spV0 n mo) j).set (j + 1) (spR ri (nF ls j) (nF (spUp ls ri (spV0 n mo) j) j)) else spUp ls ri (spV0 n mo) j := rfl
        cases hfl : flt (spR ri (nF ls j) (nF (spUp ls ri (spV0 n mo) j) j)) (nF (spUp ls ri (spV0 n mo) j) (j + 1))
        · rw [hfl] at hup
          have HRES := Lib.hid (show RowV wr vb (spUp ls ri (spV0 n mo) (j + 1)) by rw [hup]; exact HV.out)
          have HFL := Lib.hid hfl
          clear hup hfl
          go_wp2_with (go_at_call 13; refine HRE.out.mono ?_; rintro e w3 ⟨⟨r, rfl, hr⟩, q3, rfl⟩; have hrr : F32 r (spR ri (nF ls j) (nF (spUp ls ri (spV0 n mo) j) j)) := (by rw [← HX.out]; exact hr); have hbo : (FloatKind.f32.format.order r vy == some .lt) = false := (F32.lt hrr HVY.out).trans HFL.out; clear hrr hr)
          exact ⟨⟨j + 1, by omega, by go_num, Lib.hid HRES.out, Lib.hid (below_dr HB.out _), Lib.hid (HX4.out.same rfl rfl rfl), by simpa using hzr⟩, by simp [intOf]; omega⟩
        · rw [hfl] at hup
          have HUP := Lib.hid hup
          have HFL := Lib.hid hfl
          clear hup hfl
          go_wp2_with (go_at_call 13; refine HRE.out.mono ?_; rintro e w3 ⟨⟨r, rfl, hr⟩, q3, rfl⟩; have hrr : F32 r (spR ri (nF ls j) (nF (spUp ls ri (spV0 n mo) j) j)) := (by rw [← HX.out]; exact hr); have HRX := Lib.hid hrr; have hbo : (FloatKind.f32.format.order r vy == some .lt) = true := (F32.lt hrr HVY.out).trans HFL.out; have hfz := HV.out.1.free (j + 1); clear hrr hr)
          have hres : RowV (wr.setCell ⟨vb, j + 1, none⟩ (.float .f32 r)) vb (spUp ls ri (spV0 n mo) (j + 1)) := by rw [HUP.out]; exact RowV.set HV.out (by omega) HRX.out
          have hbx : Box4 (wr.setCell ⟨vb, j + 1, none⟩ (.float .f32 r)) w.heap.size n vb w5.heap.size w.heap.size wc.heap.size rb 13 := HX4.out.set _ _
          exact ⟨⟨j + 1, by omega, by go_num, Lib.hid hres, Lib.hid (below_dr (HB.out.setCell (p := ⟨vb, j + 1, none⟩) (Nat.le_of_lt hvs) (.float .f32 r)) _), Lib.hid (hbx.same rfl rfl rfl), by simpa using hzr⟩, by simp [intOf]; omega⟩
      · have hjn : j = n := by omega
        subst hjn
        have hs2 : spUp ls ri (spV0 j mo) j = spDn ls ri j (spUp ls ri (spV0 j mo) j) 0 := rfl
        rw [hs2] at HV
        obtain ⟨U, hU⟩ : ∃ U, U = spUp ls ri (spV0 j mo) j := ⟨_, rfl⟩
        rw [← hU] at HV hul
        have HUU := Lib.hid hU
        clear hs2 hU hlt2 hj HBX HV0 HB1
        go_wp2_with (go_at_call 15; refine (backward _ _ _ _).mono ?_; rintro e w6 ⟨rfl, rfl⟩)
        obtain ⟨b1, o1, rfl, q1, q2, hc⟩ := (HR.out.far (Far.below HB.out hh)) (by rw [← HN.out]; omega)
        obtain ⟨W0, hW0⟩ : ∃ W0, W0 = wr.alloc (.cells #[.slice (some ⟨b1, o1, none⟩) j ca] 24) := ⟨_, rfl⟩
        rw [← hW0]
        have hzz := HZ.out
        have hbw : vb < wr.heap.size := HV.out.1.lt
        have hz0 : W0.heap.size = wr.heap.size + 1 := by rw [hW0]; simp
        have hA0 : Below wr.heap.size wr W0 := by rw [hW0]; exact Below.alloc (Below.refl _ _) (Nat.le_refl _) _
        have hBs : W0.cell? ⟨wr.heap.size, 0, none⟩ = some (.slice (some ⟨b1, o1, none⟩) bs.length ca) := by rw [hW0, ← HN.out]; exact (World.cell?_alloc_at _ _ _ _ rfl).trans rfl
        have hws := HB.out.size
        have hc0 : ∀ i, i < bs.length → W0.cell? ⟨b1, o1 + i, none⟩ = some (.float .f32 (nF bs i)) := fun i hi => (hA0.cell (p := ⟨b1, o1 + i, none⟩) (show b1 < wr.heap.size by omega)).trans (hc i hi)
        have hV0 : RowV W0 vb (spDn ls ri j U 0) := RowV.below HV.out hA0 hbw
        have hX0 : Box4 W0 w.heap.size j vb w5.heap.size w.heap.size wc.heap.size rb 13 := HX4.out.same (hA0.block _ (by omega)) (hA0.block _ (by omega)) (hA0.block _ hzr)
        have hB0 : Below w.heap.size w W0 := HB.out.trans (hA0.mono hws)
        have p1 : b1 < W0.heap.size := by omega
        have p2 : b1 ≠ vb := by omega
        have p3 : wr.heap.size < W0.heap.size := by omega
        have p4 : wr.heap.size ≠ vb := by omega
        have p5 : vb < W0.heap.size := by omega
        have p6 : w5.heap.size < W0.heap.size := by omega
        have p7 : wc.heap.size < W0.heap.size := by omega
        have p8 : w.heap.size < W0.heap.size := by omega
        have p9 : bs.length ≤ 1048576 := by rw [← HN.out]; exact hn
        clear hzz hz0 hws hW0 hA0 hc
        refine (wpIn_wide (n := 3)).1 ?_
        refine' wpIn_rangeFunc_ownG (F := Fence.wide) (n := 3) rfl (by decide) (gf := 26) (lb := #[.pointer (some ⟨wr.heap.size, 0, none⟩)]) rfl trivial (enters_of Try.func26 (by kernel_rfl) rfl)
          (back_stops Fence.wide 2 trivial rfl (by decide) wr.heap.size W0.heap.size vb b1 o1 ca bs p9 p1 p2 p3 p4 W0 (Nat.le_refl _) hBs hc0) (fun h k => KpV.trans h k) (KpV.put (Nat.le_refl _)) (Below.refl _ _) (fun _ => rfl)
          (fun pre W => ((∃ V, V.length = j + 1 ∧ RowV W vb V ∧ ∀ k, pre.map Subtype.val = bkw bs j k → V = spDn ls ri j U k) ∧ Box4 W w.heap.size j vb w5.heap.size w.heap.size wc.heap.size rb 13) ∧ Below w.heap.size w W)
          (fun _ _ _ => False)
          (OwnFrom.and (OwnFrom.rowBox p5 p6 p8 p7) (ownFrom_below (Nat.le_refl _) (Nat.le_of_lt p8)))
          (fun _ _ _ _ _ hs _ _ => hs)
          ⟨⟨⟨_, by rw [spDn_len, hul], hV0, fun k hk => by
            have := congrArg List.length hk
            simp [bkw_length] at this
            rw [← this]⟩, hX0⟩, hB0⟩
          _ ?assign ?body ?done ?stop
        case assign =>
          intro l x W K hK
          gi_wp2
          exact hK
        case body =>
          rintro l pre ⟨⟨i, lx⟩, hxi⟩ W ⟨⟨⟨V, hVl, hV, hVk⟩, hX⟩, hB⟩ _
          have hij : i < j := by rw [HN.out]; exact hxi
          obtain ⟨vy, c3, hvy⟩ := hV.2 i (by omega)
          have HVY := Lib.hid hvy
          have cv := hX.v
          have cc := hX.c
          have hfz := hV.1.free i
          have k2 : (0 : Int) ≤ (i : Int) := by omega
          have k3 : (i : Int) < (j : Int) + 1 := by omega
          have hre := reach (i + 1) (j + 1) (j + 1) vb w5.heap.size w.heap.size lx rb ri V (by omega) hVl (by omega) W hX.v hX.r HRI.out.symm (hV.2 (i + 1) (by omega))
          rw [Int.natCast_succ] at hre
          have HRE := Lib.hid hre
          have hst := spDn_step (lx := lx) hxi HLS.out HN.out hij hVk
          have HV2 := Lib.hid hV
          have HVL := Lib.hid hVl
          clear hre hvy hVk hV0 hX0 hB0 hc0 hBs hV hVl
          cases hfl : flt (spR ri (can .f32 lx) (nF V (i + 1))) (nF V i)
          · rw [hfl] at hst
            have HST := Lib.hid hst
            have HFL := Lib.hid hfl
            clear hst hfl
            gi_wp2_with (refine ⟨trivial, ?_⟩; gi_at_call 13; refine (CallsIn.inRound l (callsIn_wide.2 HRE.out)).mono ?_; rintro e w3 ⟨⟨r, rfl, hr⟩, q3, rfl⟩; have hbo : (FloatKind.f32.format.order r vy == some .lt) = false := (F32.lt hr HVY.out).trans HFL.out; clear hr)
            exact ⟨⟨Nat.le_refl _, fun k o _ hk _ => hk⟩, fun _ _ _ => rfl, ⟨⟨V, HVL.out, HV2.out, fun k hk => by simpa using HST.out k hk⟩, hX.same rfl rfl rfl⟩, below_dr hB _⟩
          · rw [hfl] at hst
            have HST := Lib.hid hst
            have HFL := Lib.hid hfl
            clear hst hfl
            gi_wp2_with (refine ⟨trivial, ?_⟩; gi_at_call 13; refine (CallsIn.inRound l (callsIn_wide.2 HRE.out)).mono ?_; rintro e w3 ⟨⟨r, rfl, hr⟩, q3, rfl⟩; have HRX := Lib.hid hr; have hbo : (FloatKind.f32.format.order r vy == some .lt) = true := (F32.lt hr HVY.out).trans HFL.out; clear hr)
            have kf := (KeepsOthers.setCell W ⟨vb, i, none⟩ (.float .f32 r)).from W0.heap.size
            have hres : RowV (W.setCell ⟨vb, i, none⟩ (.float .f32 r)) vb (V.set i (spR ri (can .f32 lx) (nF V (i + 1)))) := RowV.set HV2.out (by rw [HVL.out]; omega) HRX.out
            have hbx : Box4 (W.setCell ⟨vb, i, none⟩ (.float .f32 r)) w.heap.size j vb w5.heap.size w.heap.size wc.heap.size rb 13 := hX.set _ _
            exact ⟨⟨kf.size, kf.same⟩, fun c _ h => Below.heap_setCell _ _ _ _ h, ⟨⟨_, by rw [List.length_set]; exact HVL.out, hres, fun k hk => by simpa using HST.out k hk⟩, hbx.same rfl rfl rfl⟩, below_dr (hB.setCell (p := ⟨vb, i, none⟩) (Nat.le_of_lt hvs) (.float .f32 r)) _⟩
        case done =>
          rintro D ys W hD hys ⟨⟨⟨V, hVl, hV, hVk⟩, hX⟩, hB⟩ hK
          have hVe : V = spEnd ls mo ri := by
            have := hVk j (by rw [hys, ← HN.out])
            rw [this, HUU.out]; unfold spEnd; rw [HLL.out, ← HN.out]
          have HVV := Lib.hid hVe
          have HVL := Lib.hid hVl
          have HV2 := Lib.hid hV
          have HX2 := Lib.hid hX
          have HBW := Lib.hid hB
          have HK := Lib.hid hK
          have hvD : vb < D := by omega
          have hDw : w.heap.size ≤ D := by omega
          rw [← hVe]
          clear hVe hVk hys hVl hV hX hB hK hV0 hX0 hB0 hc0 hBs
          gi_wp2
          go_wp2_with fail
          go_loopw [18, 19, 20, 21, 98] (fun sv _ _ _ i wr2 => ∃ (m sb : Nat), m ≤ j ∧ i = .int .i64 m ∧ sv = .float .f32 sb ∧ Hid (RowV wr2 vb V) ∧ Hid (Below w.heap.size w wr2) ∧ Hid (wr2.cell? ⟨w5.heap.size, 0, none⟩ = some (.slice (some ⟨vb, 0, none⟩) (j + 1) (j + 1))) ∧ Hid (wr2.heap[D]? = some (.deferred (some []))) ∧ Hid (F32 sb (spSum ls V m)) ∧ Hid (spGo V m)) (fun _ _ _ _ i _ => j - (intOf i).toNat)
          case atStart => exact ⟨0, 0, by omega, rfl, rfl, HV2, HBW, Lib.hid HX2.out.v, HK, Lib.hid F32.zero, Lib.hid (fun i hi => absurd hi (Nat.not_lt_zero _))⟩
          case round =>
            obtain ⟨m, sb, hm, rfl, rfl, HV4, HB4, HC4, HK4, HS, HG⟩ := hrel
            by_cases hlt : m < j
            · obtain ⟨b3, o3, ha3, q3, q4, hc3⟩ := (HR.out.far (Far.below HB4.out hh)) (by rw [← HN.out]; omega)
              cases ha3
              have c1 := hc3 m (by rw [← HN.out]; exact hlt)
              obtain ⟨lx, hx⟩ : ∃ x, x = nF bs m := ⟨_, rfl⟩
              rw [← hx] at c1
              have hxx : can .f32 lx = nF ls m := by
                rw [hx, HLS.out]
                have : m < bs.length := by rw [← HN.out]; exact hlt
                simp [nF, this]
              obtain ⟨m1, hm1⟩ : ∃ m1, m1 = m + 1 := ⟨_, rfl⟩
              obtain ⟨vx, c2, hvx⟩ := HV4.out.2 m (by rw [HVL.out]; omega)
              obtain ⟨vy, c3, hvy⟩ := HV4.out.2 (m + 1) (by rw [HVL.out]; omega)
              rw [← hm1] at c3
              have c4 := HC4.out
              have HX := Lib.hid hxx
              have HVX := Lib.hid hvx
              have HVY := Lib.hid hvy
              have k0 : (0 : Int) ≤ (m : Int) := by omega
              have k1 : (m : Int) < (j : Int) := by omega
              have k2 : (m : Int) < (j : Int) + 1 := by omega
              have k8 : (0 : Int) ≤ (m1 : Int) := by omega
              have k9 : (m1 : Int) < (j : Int) + 1 := by omega
              have HWI := Lib.hid (show IntKind.i64.wrap ((m : Int) + 1) = (m1 : Int) by rw [IntKind.wrap_i64]; omega)
              clear hc3 hx hxx hvx hvy hm1
              go_wp2_with fail
              have hwi := HWI.out
              go_region_held (fun w' => w'.cell? ⟨vb, m, none⟩ = some (.float .f32 vx) ∧ w'.cell? ⟨vb, m1, none⟩ = some (.float .f32 vy) ∧ w'.cell? ⟨w5.heap.size, 0, none⟩ = some (.slice (some ⟨vb, 0, none⟩) (j + 1) (j + 1))) (refine ⟨?_, ?_, ?_⟩ <;> first | exact c2 | exact c3 | exact c4) ((refine wpList_f rfl rfl rfl rfl (by decide) ?_; intro _ _ _; simp only [Act.put, List.setIfInBounds_toArray, List.set_cons_succ, List.set_cons_zero]))
              all_goals
                clear hwi
                obtain ⟨ss, hss⟩ : ∃ ss, ss = fadd (nF V m) (nF V (m + 1)) := ⟨_, rfl⟩
                have hfs : ∀ wx : World, F32 (mop .add .f32 vx vy wx) ss := fun wx => by rw [hss]; exact F32.add HVX.out HVY.out
                have HFS := Lib.hid hfs
                have HSS := Lib.hid hss
                clear hfs hss
                obtain ⟨sx, hsx⟩ : ∃ sx, sx = mop .add .f32 vx vy wr.drew := ⟨_, rfl⟩
                have HSX := Lib.hid (show F32 sx ss by rw [hsx]; exact HFS.out _)
                rw [← hsx]
                have hbo : (FloatKind.f32.format.order sx 0 == some .gt) = fgt ss 0 := F32.gt HSX.out F32.zero
                clear hsx
                cases hfg : fgt ss 0
                · rw [hfg] at hbo
                  have HNO := Lib.hid (show ¬ spOk ls mo ri from fun h => by
                    have h6 := h.2.2.2.2.2.1 m (by rw [HLL.out, ← HN.out]; exact hlt)
                    rw [← HVV.out, ← HSS.out, hfg] at h6
                    cases h6)
                  clear hfg
                  go_wp2_with fail
                  exact ret_back (show _ from HK4.out) rfl ⟨.inr ⟨HNO.out, rfl⟩, (below_dr HB4.out _).trans (belowK_b (Nat.le_refl _) _ D _ _ hDw (show _ from HK4.out) rfl rfl)⟩
                · rw [hfg] at hbo
                  have HG2 := Lib.hid (show spGo V (m + 1) from fun i hi => by
                    by_cases e : i = m
                    · subst e; rw [← HSS.out]; exact hfg
                    · exact HG.out i (by omega))
                  clear hfg
                  go_wp2_with fail
                  have hsum : ∀ w1 w2 w3 : World, F32 (mop .add .f32 sb (mop .quo .f32 (mop .mul .f32 1073741824 lx w1) sx w2) w3) (spSum ls V (m + 1)) := fun w1 w2 w3 => by
                    have := F32.add (w := w3) HS.out (F32.div (w := w2) (F32.mul (w := w1) (F32.lit can_l2N) (show F32 lx (nF ls m) from HX.out)) HSX.out)
                    rw [HSS.out] at this
                    exact this
                  exact ⟨⟨m + 1, _, by omega, by go_num, rfl, Lib.hid HV4.out, Lib.hid (below_dr HB4.out _), Lib.hid HC4.out, Lib.hid HK4.out, Lib.hid (hsum _ _ _), HG2⟩, by simp [intOf]; omega⟩
            · have hmj : m = j := by omega
              subst hmj
              have HLF := Lib.hid (implFinite (c := m + 1) HV4.out HVL.out (by omega))
              have hok : spOk ls mo ri ↔ (V.all fin = true ∧ fin (spSum ls V m) = true) := by
                rw [HVV.out]
                constructor
                · intro h
                  exact ⟨h.2.2.2.2.2.2.1, by have := h.2.2.2.2.2.2.2; rw [HLL.out, ← HN.out] at this; exact this⟩
                · intro h
                  refine ⟨by rw [HLL.out, ← HN.out]; exact h1, by rw [HLL.out, ← HN.out]; exact h64, HA.out, HM.out, HRR.out, ?_, h.1, ?_⟩
                  · rw [HLL.out, ← HN.out, ← HVV.out]; exact HG.out
                  · rw [HLL.out, ← HN.out]; exact h.2
              have HOK := Lib.hid hok
              have hsb : can .f32 sb = spSum ls V m := HS.out
              have HSB := Lib.hid hsb
              have c4 := HC4.out
              clear hok hsb hlt
              cases hfV : V.all fin
              · go_wp2_with (go_at_call 16; refine HLF.out.mono ?_; rintro e w5 ⟨rfl, q5, rfl⟩; rw [hfV])
                exact ret_back (show _ from HK4.out) rfl ⟨.inr ⟨(fun h => by have := (HOK.out.1 h).1; rw [hfV] at this; cases this), rfl⟩, (below_dr HB4.out _).trans (belowK_b (Nat.le_refl _) _ D _ _ hDw (show _ from HK4.out) rfl rfl)⟩
              · cases hfS : fin (spSum ls V m)
                · go_wp2_with (first | (go_at_call 16; refine HLF.out.mono ?_; rintro e w5 ⟨rfl, q5, rfl⟩; rw [hfV]) | (go_at_call 17; refine (implIsFinite _ _).mono ?_; rintro e w6 ⟨rfl, q6, rfl⟩; rw [HSB.out, hfS]))
                  exact ret_back (show _ from HK4.out) rfl ⟨.inr ⟨(fun h => by have := (HOK.out.1 h).2; rw [hfS] at this; cases this), rfl⟩, (below_dr HB4.out _).trans (belowK_b (Nat.le_refl _) _ D _ _ hDw (show _ from HK4.out) rfl rfl)⟩
                · go_wp2_with (first | (go_at_call 16; refine HLF.out.mono ?_; rintro e w5 ⟨rfl, q5, rfl⟩; rw [hfV]) | (go_at_call 17; refine (implIsFinite _ _).mono ?_; rintro e w6 ⟨rfl, q6, rfl⟩; rw [HSB.out, hfS]))
                  have hown := HV4.out.own hfV
                  have hlt4 := HV4.out.1.lt
                  refine ret_back (show _ from HK4.out) rfl ⟨.inl ⟨HOK.out.2 ⟨hfV, hfS⟩, vb, m + 1, sb, ?_, ?_, Nat.le_of_lt hvs, ?_, ?_⟩, (below_dr HB4.out _).trans (belowK_b (Nat.le_refl _) _ D _ _ hDw (show _ from HK4.out) rfl rfl)⟩
                  · rw [← HVV.out, HVL.out]; rfl
                  · rw [← HVV.out]; exact HS.out
                  · simpa using hlt4
                  · rw [← HVV.out]; exact OwnF1.put (show OwnF1 (wr.drewN _) vb V from hown) hvD _
        case stop =>
          rintro D c pre W _ _ h _
          exact h.elim
theorem implSpeed (lo hi : Nat) (a : Option Addr) (bs : List Nat) (ca mb rb : Nat) (hn : bs.length ≤ 1048576) (w : World) (hr : RdF w lo hi a bs) (hh : hi ≤ w.heap.size) :
    Calls Try.prog 6 #[.slice a bs.length ca, .float .f32 mb, .float .f32 rb] w
      (RetS (spOk (bs.map (can .f32)) (can .f32 mb) (can .f32 rb)) (spEnd (bs.map (can .f32)) (can .f32 mb) (can .f32 rb)) (spSum (bs.map (can .f32)) (spEnd (bs.map (can .f32)) (can .f32 mb) (can .f32 rb)) bs.length) w) := by
  by_cases h : 1 ≤ bs.length ∧ bs.length ≤ 64 ∧ (bs.map (can .f32)).all above = true ∧ above (can .f32 mb) = true ∧ above (can .f32 rb) = true
  · exact implSpeedYes lo hi a bs ca mb rb hn w hr hh h.1 h.2.1 h.2.2.1 h.2.2.2.1 h.2.2.2.2
  · refine (implSpeedNo lo hi a bs ca mb rb hn w hr hh h).mono ?_
    rintro e w' ⟨rfl, hb⟩
    exact ⟨.inr ⟨fun k => h ⟨by have := k.1; rwa [List.length_map] at this, by have := k.2.1; rwa [List.length_map] at this, k.2.2.1, k.2.2.2.1, k.2.2.2.2.1⟩, rfl⟩, hb⟩
end Go.Proofs.Ytfpkdnopbnppmaa

/- Contracts: the middles of facets. Contracts: the middles of facets, the program's and the reference's. Contracts: the middles of facets, the reference's. -/
import Derived.Test.YtkjljajjjhfklaaNj03
import Derived.Test.YtkjljajjjhfklaaNj04
import Derived.Test.YtkjljajjjhfklaaNj06
import Derived.StillTailTactics
namespace Go.Fl
/-- the number of a count -/
def cntF (n : Nat) : Nat := can .f32 (FloatKind.f32.nearest (n : Int))
/-- the sum of the first k spots -/
def sumQ (qs : List Sp) : Nat → Sp
  | 0 => (0, 0, 0)
  | k + 1 => spAdd (sumQ qs k) (pAt qs k)
/-- the mean of spots -/
def meanQ (qs : List Sp) : Sp := spDiv (sumQ qs qs.length) (cntF qs.length)
/-- the spots at the corners f -/
def qsOf (ps : List Sp) (f : List Int) : List Sp := f.map fun c => pAt ps c.toNat
theorem qsOf_len (ps : List Sp) (f : List Int) : (qsOf ps f).length = f.length := by simp [qsOf]
theorem qsOf_at {ps : List Sp} {f : List Int} {k : Nat} (h : k < f.length) : pAt (qsOf ps f) k = pAt ps (iAt f k).toNat := by simp [pAt, qsOf, iAt, h]
/-- the middle of a facet -/
def mid (ps : List Sp) (f : List Int) : Sp := meanQ (qsOf ps f)
/-- the middles of the first j facets -/
def midsTo (ps : List Sp) (fs : List (List Int)) (j : Nat) : List Sp := (List.range j).map fun i => mid ps (fAt fs i)
theorem midsTo_len (ps : List Sp) (fs : List (List Int)) (j : Nat) : (midsTo ps fs j).length = j := by simp [midsTo]
theorem midsTo_succ (ps : List Sp) (fs : List (List Int)) (j : Nat) : midsTo ps fs (j + 1) = midsTo ps fs j ++ [mid ps (fAt fs j)] := by simp [midsTo, List.range_succ]
/-- the cells cs hold the spots qs -/
def SpL (cs : List Value) (qs : List Sp) : Prop := ∀ i, i < qs.length → ∃ x y z, cs[i * 3]? = some (.float .f32 x) ∧ cs[i * 3 + 1]? = some (.float .f32 y) ∧ cs[i * 3 + 2]? = some (.float .f32 z) ∧ IsSp x y z (pAt qs i)
theorem SpL.nil : SpL [] [] := fun _ h => absurd h (Nat.not_lt_zero _)
theorem SpL.snoc {cs : List Value} {qs : List Sp} (h : SpL cs qs) (hl : cs.length = qs.length * 3) {x y z : Nat} {q : Sp} (hq : IsSp x y z q) : SpL (cs ++ [.float .f32 x, .float .f32 y, .float .f32 z]) (qs ++ [q]) := fun i hi => by
  by_cases h1 : i < qs.length
  · obtain ⟨a, b, c, e1, e2, e3, e4⟩ := h i h1
    refine ⟨a, b, c, ?_, ?_, ?_, ?_⟩
    · rw [List.getElem?_append_left (by omega)]; exact e1
    · rw [List.getElem?_append_left (by omega)]; exact e2
    · rw [List.getElem?_append_left (by omega)]; exact e3
    · have : pAt (qs ++ [q]) i = pAt qs i := by simp [pAt, List.getElem?_append_left h1]
      rw [this]; exact e4
  · have hiq : i = qs.length := by simp at hi; omega
    subst hiq
    refine ⟨x, y, z, ?_, ?_, ?_, ?_⟩
    · rw [List.getElem?_append_right (by omega), hl]; simp
    · rw [List.getElem?_append_right (by omega), hl]; simp
    · rw [List.getElem?_append_right (by omega), hl]; simp
    · have : pAt (qs ++ [q]) qs.length = q := by simp [pAt]
      rw [this]; exact hq
theorem ORow.spots {w : World} {e : TypeId} {b cap : Nat} {cs : List Value} {qs : List Sp} (h : ORow w e 3 b cap qs.length cs) (hq : SpL cs qs) : SlP w b (b + 1) (some ⟨b, 0, none⟩) qs := fun _ => by
  refine ⟨b, 0, rfl, Nat.le_refl _, Nat.lt_succ_self _, fun i hi => ?_⟩
  obtain ⟨x, y, z, e1, e2, e3, e4⟩ := hq i hi
  refine ⟨x, y, z, ?_, ?_, ?_, e4.f1, e4.f2, e4.f3⟩
  · rw [Nat.zero_add, h.cell _ (by omega)]; exact e1
  · rw [Nat.zero_add, h.cell _ (by omega)]; exact e2
  · rw [Nat.zero_add, h.cell _ (by omega)]; exact e3
end Go.Fl
namespace Go.Proofs.Ytkjljajjjhfklaa
open Go.RowKit Go.Fl

theorem addB (x y z x' y' z' : Nat) (p q : Sp) (hp : IsSp x y z p) (hq : IsSp x' y' z' q) (w : World) :
    Calls Try.prog 30 #[.agg #[.float .f32 x, .float .f32 y, .float .f32 z], .agg #[.float .f32 x', .float .f32 y', .float .f32 z']] w fun e w' => (∃ a b c, e = .returned (.agg #[.float .f32 a, .float .f32 b, .float .f32 c]) ∧ IsSp a b c (spAdd p q)) ∧ Below w.heap.size w w' := implAdd x y z x' y' z' p q hp hq w
theorem byB (x y z b t : Nat) (p : Sp) (hp : IsSp x y z p) (hb : F32 b t) (w : World) :
    Calls Try.prog 73 #[.agg #[.float .f32 x, .float .f32 y, .float .f32 z], .float .f32 b] w fun e w' => (∃ a b c, e = .returned (.agg #[.float .f32 a, .float .f32 b, .float .f32 c]) ∧ IsSp a b c (spDiv p t)) ∧ Below w.heap.size w w' := implBy x y z b t p hp hb w
set_option maxHeartbeats 2000000 in
set_option maxRecDepth 100000 in
theorem meanOf (lo hi : Nat) (ao : Option Addr) (c : Nat) (qs : List Sp) (hn : qs.length ≤ 1048576) (w : World) (hs : SlP w lo hi ao qs) (hh : hi ≤ w.heap.size) :
    Calls Try.prog 58 #[.slice ao qs.length c] w fun e w' => (∃ a b c, e = .returned (spV a b c) ∧ IsSp a b c (meanQ qs)) ∧ Below w.heap.size w w' := by
  have HS := Lib.hid hs
  clear hs
  unfold spV
  go_enter Try.func58, Try.ntmps58
  go_wp2_with fail
  go_loopw [9] (fun i wr => ∃ (k x y z : Nat), k ≤ qs.length ∧ i = .int .i64 k ∧ Hid (Below w.heap.size w wr) ∧ Hid (OwnC wr (w.heap.size + 1) #[.float .f32 x, .float .f32 y, .float .f32 z] 46) ∧ Hid (OwnC wr w.heap.size #[.float .f32 0, .float .f32 0, .float .f32 0] 46) ∧ Hid (IsSp x y z (sumQ qs k))) (fun i _ => qs.length - (intOf i).toNat)
  case atStart =>
    refine ⟨0, 0, 0, 0, by omega, rfl, Lib.hid (by (repeat (first | exact Below.refl _ _ | assumption | refine below_dr ?_ _ | refine Below.alloc ?_ (by first | omega | (simp; done) | (simp; omega)) _ | refine Below.setCell ?_ (by first | omega | (simp; done) | (simp; omega)) _ | refine Below.trans ?_ (Below.mono (by assumption) (by first | omega | (simp; done) | (simp; omega)))))), Lib.hid (OwnC.new (by simp)), Lib.hid ((OwnC.new rfl).alloc _), Lib.hid ?_⟩
    show (can .f32 0, can .f32 0, can .f32 0) = _
    rw [can_l5]; rfl
  case round =>
    obtain ⟨k, x, y, z, hk, rfl, HW, HO, HZ, HQ⟩ := hrel
    have o0 := HO.out.cell 0
    have o1 := HO.out.cell 1
    have o2 := HO.out.cell 2
    have f0 := HO.out.free 0
    have f1 := HO.out.free 1
    have f2 := HO.out.free 2
    simp at o0 o1 o2
    by_cases hlt : k < qs.length
    · obtain ⟨b1, of1, rfl, _, q1, hc1⟩ := HS.out.far (Far.below HW.out hh) (by omega)
      obtain ⟨x', y', z', c1, c2, c3, g1, g2, g3⟩ := hc1 k hlt
      have HP := Lib.hid (IsSp.of g1 g2 g3)
      have hz := HW.out.size
      have hlo := HO.out.lt
      have HW1 := Lib.hid (HW.out.alloc hz (.cells #[.float .f32 x', .float .f32 y', .float .f32 z'] 46))
      have HO1 := Lib.hid (HO.out.alloc (.cells #[.float .f32 x', .float .f32 y', .float .f32 z'] 46))
      have HZ1 := Lib.hid (HZ.out.alloc (.cells #[.float .f32 x', .float .f32 y', .float .f32 z'] 46))
      have d0 := HO1.out.cell 0
      have d1 := HO1.out.cell 1
      have d2 := HO1.out.cell 2
      simp at d0 d1 d2
      have k0 : (0 : Int) ≤ (k : Int) := by omega
      have k1 : (k : Int) < (qs.length : Int) := by omega
      clear hc1 g1 g2 g3 o0 o1 o2
      go_wp2_with (go_at_call 30; refine (addB x y z x' y' z' _ _ HQ.out HP.out _).mono ?_; rintro e w3 ⟨⟨a, b, c, rfl, hab⟩, hb3⟩; have HAB := Lib.hid hab; have HO3 := Lib.hid (HO1.out.below hb3 (by simp; omega)); have HZ3 := Lib.hid (HZ1.out.below hb3 (by simp; omega)); have e0 := HO3.out.cell 0; have e1 := HO3.out.cell 1; have e2 := HO3.out.cell 2; simp at e0 e1 e2; have g0 := HO3.out.free 0; have g1 := HO3.out.free 1; have g2 := HO3.out.free 2; have HW3 := Lib.hid (HW1.out.trans (hb3.mono (by simp; omega))); clear hab hb3 d0 d1 d2)
      have HO4 : Hid (OwnC (((w3.setCell ⟨w.heap.size + 1, 0, none⟩ (.float .f32 a)).setCell ⟨w.heap.size + 1, 1, none⟩ (.float .f32 b)).setCell ⟨w.heap.size + 1, 2, none⟩ (.float .f32 c)) (w.heap.size + 1) #[.float .f32 a, .float .f32 b, .float .f32 c] 46) :=
        (((HO3.out.set 0 _).set 1 _).set 2 _).congr rfl
      have HZ4 : Hid (OwnC (((w3.setCell ⟨w.heap.size + 1, 0, none⟩ (.float .f32 a)).setCell ⟨w.heap.size + 1, 1, none⟩ (.float .f32 b)).setCell ⟨w.heap.size + 1, 2, none⟩ (.float .f32 c)) w.heap.size #[.float .f32 0, .float .f32 0, .float .f32 0] 46) :=
        ((HZ3.out.other _ _ (by simp)).other _ _ (by simp)).other _ _ (by simp)
      go_roundw
      case rel => exact ⟨k + 1, a, b, c, by omega, by go_num, ((HW3.out.setCell (by simp) _).setCell (by simp) _).setCell (by simp) _, HO4, HZ4, HAB⟩
      case measure => simp [intOf]; omega
    · have hkn : k = qs.length := by omega
      subst hkn
      have z0 := HZ.out.cell 0
      have z1 := HZ.out.cell 1
      have z2 := HZ.out.cell 2
      have i0 := HZ.out.free 0
      have i1 := HZ.out.free 1
      have i2 := HZ.out.free 2
      simp at z0 z1 z2
      have zlt := HZ.out.lt
      go_wp2_with (go_at_call 73; refine (byB x y z _ _ _ HQ.out (F32.mk _) _).mono ?_; rintro e w3 ⟨⟨a, b, c, rfl, hab⟩, hb3⟩; have HAB := Lib.hid hab; have HZ3 := Lib.hid (HZ.out.below hb3 zlt); have e0 := HZ3.out.cell 0; have e1 := HZ3.out.cell 1; have e2 := HZ3.out.cell 2; simp at e0 e1 e2; have g0 := HZ3.out.free 0; have g1 := HZ3.out.free 1; have g2 := HZ3.out.free 2; have HW3 := Lib.hid (HW.out.trans (hb3.mono HW.out.size)); clear hab hb3)
      have HZ4 : OwnC (((w3.setCell ⟨w.heap.size, 0, none⟩ (.float .f32 a)).setCell ⟨w.heap.size, 1, none⟩ (.float .f32 b)).setCell ⟨w.heap.size, 2, none⟩ (.float .f32 c)) w.heap.size #[.float .f32 a, .float .f32 b, .float .f32 c] 46 :=
        (((HZ3.out.set 0 _).set 1 _).set 2 _).congr rfl
      have r0 := HZ4.cell 0
      have r1 := HZ4.cell 1
      have r2 := HZ4.cell 2
      simp at r0 r1 r2
      refine bodyPost_ret (v := .agg #[.float .f32 a, .float .f32 b, .float .f32 c]) (by simp [results, Try.results58, go_sem, *]) rfl ⟨⟨a, b, c, rfl, HAB.out⟩, ?_⟩
      exact ((HW3.out.setCell (by simp) _).setCell (by simp) _).setCell (by simp) _
end Go.Proofs.Ytkjljajjjhfklaa

namespace Go.Fl
/-- all corners are of n spots -/
def InN (n : Nat) (f : List Int) : Prop := ∀ k, k < f.length → 0 ≤ iAt f k ∧ iAt f k < n
theorem OkF.inN {n : Nat} {f : List Int} (h : OkF n f) : InN n f := fun k hk => by
  have := (h.2.2 k hk).1
  simp only [inB, Bool.and_eq_true, decide_eq_true_eq] at this
  omega
theorem take_snoc {qs : List Sp} {k : Nat} (h : k < qs.length) : qs.take (k + 1) = qs.take k ++ [pAt qs k] := by
  rw [List.take_succ_eq_append_getElem h]; simp [pAt, h]
theorem ORow.clen {w : World} {e : TypeId} {size b cap n : Nat} {cs : List Value} (h : ORow w e size b cap n cs) : cs.length = n * size := by
  obtain ⟨_, _, _, _, h4⟩ := h.block
  exact h4
end Go.Fl
namespace Go.Proofs.Ytkjljajjjhfklaa
open Go.RowKit Go.Fl
theorem infoSpot' : (Try.prog.info? 46).map (fun i => (i.zero, i.size, i.bytes)) = some (some (.agg #[.float .f32 0, .float .f32 0, .float .f32 0]), 3, 12) := by kernel_rfl

set_option maxHeartbeats 2000000 in
set_option maxRecDepth 100000 in
theorem facetPoint (lo hi : Nat) (sa fa : Option Addr) (sc fc j : Nat) (ps : List Sp) (fs : List (List Int)) (hp : ps.length ≤ 1048576) (hj : j < fs.length) (hn : fs.length ≤ 1048576) (hsh : (fAt fs j).length ≤ 1048576) (hin : InN ps.length (fAt fs j)) (w : World) (hs : NetAt w lo hi sa fa ps fs) (hh : hi ≤ w.heap.size) :
    Calls Try.prog 54 #[.agg #[.slice sa ps.length sc, .slice fa fs.length fc], .int .i64 (j : Int)] w fun e w' => (∃ a b c, e = .returned (.agg #[.float .f32 a, .float .f32 b, .float .f32 c]) ∧ IsSp a b c (mid ps (fAt fs j))) ∧ Below w.heap.size w w' := by
  have HS := Lib.hid hs
  have HI := Lib.hid hin
  obtain ⟨bf, off, rfl, f1, f2, hcf⟩ := hs.facets (by omega)
  obtain ⟨ai, ci, d0, s1⟩ := hcf j hj
  have S1 := Lib.hid s1
  have hz : bf < w.heap.size := by omega
  have d1 : ((w.alloc (.cells #[.slice sa ps.length sc, .slice (some ⟨bf, off, none⟩) fs.length fc] 27)).alloc (.cells #[.float .f32 0, .float .f32 0, .float .f32 0] 46)).cell? ⟨bf, off + j, none⟩ = some (.slice ai (fAt fs j).length ci) :=
    keep_cell (by (repeat (first | exact Below.refl _ _ | assumption | refine below_dr ?_ _ | refine Below.alloc ?_ (by first | omega | (simp; done) | (simp; omega)) _ | refine Below.setCell ?_ (by first | omega | (simp; done) | (simp; omega)) _ | refine Below.trans ?_ (Below.mono (by assumption) (by first | omega | (simp; done) | (simp; omega)))))) d0
  have d2 : (((w.alloc (.cells #[.slice sa ps.length sc, .slice (some ⟨bf, off, none⟩) fs.length fc] 27)).alloc (.cells #[.float .f32 0, .float .f32 0, .float .f32 0] 46)).alloc (.cells #[] 46)).cell? ⟨bf, off + j, none⟩ = some (.slice ai (fAt fs j).length ci) :=
    keep_cell (by (repeat (first | exact Below.refl _ _ | assumption | refine below_dr ?_ _ | refine Below.alloc ?_ (by first | omega | (simp; done) | (simp; omega)) _ | refine Below.setCell ?_ (by first | omega | (simp; done) | (simp; omega)) _ | refine Below.trans ?_ (Below.mono (by assumption) (by first | omega | (simp; done) | (simp; omega)))))) d0
  have j0 : (0 : Int) ≤ (j : Int) := by omega
  have j1 : (j : Int) < (fs.length : Int) := by omega
  clear hs hin hcf s1 d0
  generalize hf : fAt fs j = f at *
  have HFE := Lib.hid hf
  clear hf
  have HQL := Lib.hid (qsOf_len ps f)
  go_enter Try.func54, Try.ntmps54
  go_wp2_with fail
  go_loopw [5, 16] (fun out i wr => ∃ (k b cap : Nat) (cs : List Value), k ≤ f.length ∧ i = .int .i64 k ∧ out = .slice (some ⟨b, 0, none⟩) k cap ∧ Hid (ORow wr 46 3 b cap k cs) ∧ Hid (SpL cs ((qsOf ps f).take k)) ∧ w.heap.size + 1 < b ∧ Hid (Below w.heap.size w wr) ∧ Hid (OwnC wr w.heap.size #[.slice sa ps.length sc, .slice (some ⟨bf, off, none⟩) fs.length fc] 27) ∧ Hid (OwnC wr (w.heap.size + 1) #[.float .f32 0, .float .f32 0, .float .f32 0] 46)) (fun _ i _ => f.length - (intOf i).toNat)
  case atStart =>
    refine ⟨0, _, _, [], by omega, rfl, rfl, ?_, Lib.hid (by simpa using SpL.nil), by omega, Lib.hid (by (repeat (first | exact Below.refl _ _ | assumption | refine below_dr ?_ _ | refine Below.alloc ?_ (by first | omega | (simp; done) | (simp; omega)) _ | refine Below.setCell ?_ (by first | omega | (simp; done) | (simp; omega)) _ | refine Below.trans ?_ (Below.mono (by assumption) (by first | omega | (simp; done) | (simp; omega)))))), Lib.hid (((OwnC.new rfl).alloc _).alloc _), Lib.hid ((OwnC.new (by simp)).alloc _)⟩
    have := ORow.new ((w.alloc (.cells #[.slice sa ps.length sc, .slice (some ⟨bf, off, none⟩) fs.length fc] 27)).alloc (.cells #[.float .f32 0, .float .f32 0, .float .f32 0] 46)) 46 3
    simp only [World.size_alloc] at this
    exact this
  case round =>
    clear d1 d2
    obtain ⟨k, b, cap, cs, hk, rfl, rfl, HR, HSP, hbb, HW, HA, HZ⟩ := hrel
    have a0 := HA.out.cell 0
    simp at a0
    by_cases hlt : k < f.length
    · have hsi := S1.out.far (Far.below HW.out hh)
      obtain ⟨b3, o3, rfl, _, _, hc3⟩ := hsi (by omega)
      have e1 := hc3 k hlt
      obtain ⟨i0, i1⟩ := HI.out k hlt
      obtain ⟨v, hv⟩ := Int.eq_ofNat_of_zero_le i0
      rw [hv] at e1 i1
      have hvn : v < ps.length := by omega
      obtain ⟨b4, o4, hsa, _, _, hc4⟩ := HS.out.spots.far (Far.below HW.out hh) (by omega)
      subst hsa
      obtain ⟨x, y, z, c1, c2, c3, g1, g2, g3⟩ := hc4 v hvn
      have HQ := Lib.hid (IsSp.of g1 g2 g3)
      have HQE : Hid (pAt (qsOf ps f) k = pAt ps v) := Lib.hid (by rw [qsOf_at hlt, hv]; rfl)
      have k0 : (0 : Int) ≤ (k : Int) := by omega
      have k1 : (k : Int) < (f.length : Int) := by omega
      have v0 : (0 : Int) ≤ (v : Int) := by omega
      have v1 : (v : Int) < (ps.length : Int) := by omega
      clear hsi hc3 hc4 g1 g2 g3 hv i0
      go_wp2_with (at_builtin; refine wpList_app rfl _ _ _ rfl 46 (.agg #[.float .f32 0, .float .f32 0, .float .f32 0]) 3 12 Try.underlying24 infoSpot' rfl (by decide) _ #[.float .f32 x, .float .f32 y, .float .f32 z] 46 rfl (by simp [Value.oneCell']) b cap _ _ rfl rfl HR.out (by omega) (by decide) ?_; intro b5 cap5 w5 hr5 hg5 hgr5)
      have hz5 := HW.out.size
      have hla := HA.out.lt
      have hlz := HZ.out.lt
      go_roundw
      case rel =>
        refine ⟨k + 1, b5, cap5, _, by omega, by go_num, rfl, Lib.hid hr5, ?_, by omega, Lib.hid (HW.out.trans (hgr5.below (by omega) hz5)), Lib.hid ((hgr5.block _ hla (by omega)).trans HA.out), Lib.hid ((hgr5.block _ hlz (by omega)).trans HZ.out)⟩
        show SpL _ _
        rw [take_snoc (by rw [HQL.out]; exact hlt), HQE.out]
        refine HSP.out.snoc ?_ HQ.out
        rw [HR.out.clen, List.length_take, HQL.out, Nat.min_eq_left hk]
      case measure => simp [intOf]; omega
    · have hkn : k = f.length := by omega
      subst hkn
      have hsp := HSP.out
      rw [List.take_of_length_le (by rw [HQL.out]; exact Nat.le_refl _)] at hsp
      have hrow := HR.out
      rw [← HQL.out] at hrow
      have hsl := hrow.spots hsp
      have hrl := HR.out.lt
      have HM := Lib.hid (meanOf b (b + 1) (some ⟨b, 0, none⟩) cap (qsOf ps f) (by rw [HQL.out]; exact hsh) wr hsl (by omega))
      rw [HQL.out] at HM
      have zlt := HZ.out.lt
      clear hsp hrow hsl
      go_wp2_with (go_at_call 58; refine HM.out.mono ?_; unfold spV; rintro e w3 ⟨⟨a, b, c, rfl, hab⟩, hb3⟩; have HAB := Lib.hid hab; have HZ3 := Lib.hid (HZ.out.below hb3 zlt); have e0 := HZ3.out.cell 0; have e1 := HZ3.out.cell 1; have e2 := HZ3.out.cell 2; simp at e0 e1 e2; have g0 := HZ3.out.free 0; have g1 := HZ3.out.free 1; have g2 := HZ3.out.free 2; have HW3 := Lib.hid (HW.out.trans (hb3.mono HW.out.size)); clear hab hb3)
      have HZ4 : OwnC (((w3.setCell ⟨w.heap.size + 1, 0, none⟩ (.float .f32 a)).setCell ⟨w.heap.size + 1, 1, none⟩ (.float .f32 b)).setCell ⟨w.heap.size + 1, 2, none⟩ (.float .f32 c)) (w.heap.size + 1) #[.float .f32 a, .float .f32 b, .float .f32 c] 46 :=
        (((HZ3.out.set 0 _).set 1 _).set 2 _).congr rfl
      have r0 := HZ4.cell 0
      have r1 := HZ4.cell 1
      have r2 := HZ4.cell 2
      simp at r0 r1 r2
      refine bodyPost_ret (v := .agg #[.float .f32 a, .float .f32 b, .float .f32 c]) (by simp [results, Try.results54, go_sem, *]) rfl ⟨⟨a, b, c, rfl, HAB.out⟩, ?_⟩
      exact ((HW3.out.setCell (by simp) _).setCell (by simp) _).setCell (by simp) _

set_option maxHeartbeats 2000000 in
set_option maxRecDepth 100000 in
theorem facetPoints (lo hi : Nat) (sa fa : Option Addr) (sc fc : Nat) (ps : List Sp) (fs : List (List Int)) (hp : ps.length ≤ 1048576) (hn : fs.length ≤ 1048576) (hsh : ∀ i, i < fs.length → (fAt fs i).length ≤ 1048576) (hin : ∀ i, i < fs.length → InN ps.length (fAt fs i)) (w : World) (hs : NetAt w lo hi sa fa ps fs) (hh : hi ≤ w.heap.size) :
    Calls Try.prog 28 #[.agg #[.slice sa ps.length sc, .slice fa fs.length fc]] w fun e w' => (∃ b cap cs, e = .returned (.slice (some ⟨b, 0, none⟩) fs.length cap) ∧ ORow w' 46 3 b cap fs.length cs ∧ SpL cs (midsTo ps fs fs.length) ∧ w.heap.size ≤ b) ∧ Below w.heap.size w w' := by
  have HS := Lib.hid hs
  have HSH := Lib.hid hsh
  have HI := Lib.hid hin
  clear hs hsh hin
  go_enter Try.func28, Try.ntmps28
  go_wp2_with fail
  go_loopw [3, 9] (fun out i wr => ∃ (j b cap : Nat) (cs : List Value), j ≤ fs.length ∧ i = .int .i64 j ∧ out = .slice (some ⟨b, 0, none⟩) j cap ∧ Hid (ORow wr 46 3 b cap j cs) ∧ Hid (SpL cs (midsTo ps fs j)) ∧ w.heap.size < b ∧ Hid (Below w.heap.size w wr) ∧ Hid (OwnC wr w.heap.size #[.slice sa ps.length sc, .slice fa fs.length fc] 27)) (fun _ i _ => fs.length - (intOf i).toNat)
  case atStart =>
    refine ⟨0, _, _, [], by omega, rfl, rfl, ?_, Lib.hid (by simpa [midsTo] using SpL.nil), by omega, Lib.hid (by (repeat (first | exact Below.refl _ _ | assumption | refine below_dr ?_ _ | refine Below.alloc ?_ (by first | omega | (simp; done) | (simp; omega)) _ | refine Below.setCell ?_ (by first | omega | (simp; done) | (simp; omega)) _ | refine Below.trans ?_ (Below.mono (by assumption) (by first | omega | (simp; done) | (simp; omega)))))), Lib.hid ((OwnC.new rfl).alloc _)⟩
    have := ORow.new (w.alloc (.cells #[.slice sa ps.length sc, .slice fa fs.length fc] 27)) 46 3
    simp only [World.size_alloc] at this
    exact this
  case round =>
    obtain ⟨j, b, cap, cs, hj, rfl, rfl, HR, HSP, hbb, HW, HA⟩ := hrel
    have a0 := HA.out.cell 0
    have a1 := HA.out.cell 1
    simp at a0 a1
    by_cases hlt : j < fs.length
    · have k0 : (0 : Int) ≤ (j : Int) := by omega
      have k1 : (j : Int) < (fs.length : Int) := by omega
      have hlj := HSH.out j hlt
      have hij := HI.out j hlt
      have hz := HW.out.size
      have hrl := HR.out.lt
      have hla := HA.out.lt
      have HC := Lib.hid (facetPoint lo hi sa fa sc fc j ps fs hp hlt hn hlj hij wr (HS.out.far (Far.below HW.out hh)) (by omega))
      clear hij
      go_wp2_with (first | (go_at_call 54; refine HC.out.mono ?_; rintro e w3 ⟨⟨x, y, z, rfl, hab⟩, hb3⟩; have HAB := Lib.hid hab; have HR3 := Lib.hid (HR.out.below hb3 hrl); have HA3 := Lib.hid (HA.out.below hb3 hla); have HW3 := Lib.hid (HW.out.trans (hb3.mono hz)); have hz3 := hb3.size; clear hab hb3) | (at_builtin; refine wpList_app rfl _ _ _ rfl 46 (.agg #[.float .f32 0, .float .f32 0, .float .f32 0]) 3 12 Try.underlying24 infoSpot' rfl (by decide) _ #[.float .f32 x, .float .f32 y, .float .f32 z] 46 rfl (by simp [Value.oneCell']) b cap _ _ rfl rfl HR3.out (by omega) (by decide) ?_; intro b5 cap5 w5 hr5 hg5 hgr5))
      have hz5 := HW3.out.size
      have hlb := HA3.out.lt
      go_roundw
      case rel =>
        refine ⟨j + 1, b5, cap5, _, by omega, by go_num, rfl, Lib.hid hr5, ?_, by omega, Lib.hid (HW3.out.trans (hgr5.below (by omega) hz5)), Lib.hid ((hgr5.block _ hlb (by omega)).trans HA3.out)⟩
        show SpL _ _
        rw [midsTo_succ]
        refine HSP.out.snoc ?_ HAB.out
        rw [HR.out.clen, midsTo_len]
      case measure => simp [intOf]; omega
    · have hjn : j = fs.length := by omega
      subst hjn
      go_wp2_with fail
      go_ret
      exact ⟨⟨b, cap, cs, rfl, HR.out, HSP.out, by omega⟩, HW.out⟩
end Go.Proofs.Ytkjljajjjhfklaa

namespace Go.Proofs.Ytkjljajjjhfklaa
open Go.RowKit Go.Fl

end Go.Proofs.Ytkjljajjjhfklaa

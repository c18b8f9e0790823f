/- Contracts: the middles of facets. -/
import Derived.Test.YtbmahankleijkaaSp
import Derived.Test.YtbmahankleijkaaRow2
import Derived.Test.YtbmahankleijkaaVal
namespace Go.Fl
/-- the number of a count -/
def cntF (n : Nat) : Nat := can .f32 (FloatKind.f32.nearest (n : Int))
/-- the sum of the first k spots -/
def sumQ (qs : List Sp) : Nat → Sp
  | 0 => (0, 0, 0)
  | k + 1 => spAdd (sumQ qs k) (pAt qs k)
/-- the mean of spots -/
def meanQ (qs : List Sp) : Sp := spDiv (sumQ qs qs.length) (cntF qs.length)
/-- the spots at the corners f -/
def qsOf (ps : List Sp) (f : List Int) : List Sp := f.map fun c => pAt ps c.toNat
theorem qsOf_len (ps : List Sp) (f : List Int) : (qsOf ps f).length = f.length := by simp [qsOf]
theorem qsOf_at {ps : List Sp} {f : List Int} {k : Nat} (h : k < f.length) : pAt (qsOf ps f) k = pAt ps (iAt f k).toNat := by simp [pAt, qsOf, iAt, h]
/-- the middle of a facet -/
def mid (ps : List Sp) (f : List Int) : Sp := meanQ (qsOf ps f)
/-- the middles of the first j facets -/
def midsTo (ps : List Sp) (fs : List (List Int)) (j : Nat) : List Sp := (List.range j).map fun i => mid ps (fAt fs i)
theorem midsTo_len (ps : List Sp) (fs : List (List Int)) (j : Nat) : (midsTo ps fs j).length = j := by simp [midsTo]
theorem midsTo_succ (ps : List Sp) (fs : List (List Int)) (j : Nat) : midsTo ps fs (j + 1) = midsTo ps fs j ++ [mid ps (fAt fs j)] := by simp [midsTo, List.range_succ]
/-- the cells cs hold the spots qs -/
def SpL (cs : List Value) (qs : List Sp) : Prop := ∀ i, i < qs.length → ∃ x y z, cs[i * 3]? = some (.float .f32 x) ∧ cs[i * 3 + 1]? = some (.float .f32 y) ∧ cs[i * 3 + 2]? = some (.float .f32 z) ∧ IsSp x y z (pAt qs i)
theorem SpL.nil : SpL [] [] := fun _ h => absurd h (Nat.not_lt_zero _)
theorem SpL.snoc {cs : List Value} {qs : List Sp} (h : SpL cs qs) (hl : cs.length = qs.length * 3) {x y z : Nat} {q : Sp} (hq : IsSp x y z q) : SpL (cs ++ [.float .f32 x, .float .f32 y, .float .f32 z]) (qs ++ [q]) := fun i hi => by
  by_cases h1 : i < qs.length
  · obtain ⟨a, b, c, e1, e2, e3, e4⟩ := h i h1
    refine ⟨a, b, c, ?_, ?_, ?_, ?_⟩
    · rw [List.getElem?_append_left (by omega)]; exact e1
    · rw [List.getElem?_append_left (by omega)]; exact e2
    · rw [List.getElem?_append_left (by omega)]; exact e3
    · have : pAt (qs ++ [q]) i = pAt qs i := by simp [pAt, List.getElem?_append_left h1]
      rw [this]; exact e4
  · have hiq : i = qs.length := by simp at hi; omega
    subst hiq
    refine ⟨x, y, z, ?_, ?_, ?_, ?_⟩
    · rw [List.getElem?_append_right (by omega), hl]; simp
    · rw [List.getElem?_append_right (by omega), hl]; simp
    · rw [List.getElem?_append_right (by omega), hl]; simp
    · have : pAt (qs ++ [q]) qs.length = q := by simp [pAt]
      rw [this]; exact hq
theorem ORow.spots {w : World} {e : TypeId} {b cap : Nat} {cs : List Value} {qs : List Sp} (h : ORow w e 3 b cap qs.length cs) (hq : SpL cs qs) : SlP w b (b + 1) (some ⟨b, 0, none⟩) qs := fun _ => by
  refine ⟨b, 0, rfl, Nat.le_refl _, Nat.lt_succ_self _, fun i hi => ?_⟩
  obtain ⟨x, y, z, e1, e2, e3, e4⟩ := hq i hi
  refine ⟨x, y, z, ?_, ?_, ?_, e4.f1, e4.f2, e4.f3⟩
  · rw [Nat.zero_add, h.cell _ (by omega)]; exact e1
  · rw [Nat.zero_add, h.cell _ (by omega)]; exact e2
  · rw [Nat.zero_add, h.cell _ (by omega)]; exact e3
end Go.Fl
namespace Go.Proofs.Ytbmahankleijkaa
open Go.RowKit Go.Fl

theorem addB (x y z x' y' z' : Nat) (p q : Sp) (hp : IsSp x y z p) (hq : IsSp x' y' z' q) (w : World) :
    Calls Try.prog 91 #[.agg #[.float .f32 x, .float .f32 y, .float .f32 z], .agg #[.float .f32 x', .float .f32 y', .float .f32 z']] w fun e w' => (∃ a b c, e = .returned (.agg #[.float .f32 a, .float .f32 b, .float .f32 c]) ∧ IsSp a b c (spAdd p q)) ∧ Below w.heap.size w w' := implAdd x y z x' y' z' p q hp hq w
theorem addS (x y z x' y' z' : Nat) (p q : Sp) (hp : IsSp x y z p) (hq : IsSp x' y' z' q) (w : World) :
    Calls Try.prog 83 #[.agg #[.float .f32 x, .float .f32 y, .float .f32 z], .agg #[.float .f32 x', .float .f32 y', .float .f32 z']] w fun e w' => (∃ a b c, e = .returned (.agg #[.float .f32 a, .float .f32 b, .float .f32 c]) ∧ IsSp a b c (spAdd p q)) ∧ Below w.heap.size w w' := l04Add x y z x' y' z' p q hp hq w
theorem byB (x y z b t : Nat) (p : Sp) (hp : IsSp x y z p) (hb : F32 b t) (w : World) :
    Calls Try.prog 122 #[.agg #[.float .f32 x, .float .f32 y, .float .f32 z], .float .f32 b] w fun e w' => (∃ a b c, e = .returned (.agg #[.float .f32 a, .float .f32 b, .float .f32 c]) ∧ IsSp a b c (spDiv p t)) ∧ Below w.heap.size w w' := implBy x y z b t p hp hb w
theorem overS (x y z b t : Nat) (p : Sp) (hp : IsSp x y z p) (hb : F32 b t) (w : World) :
    Calls Try.prog 84 #[.agg #[.float .f32 x, .float .f32 y, .float .f32 z], .float .f32 b] w fun e w' => (∃ a b c, e = .returned (.agg #[.float .f32 a, .float .f32 b, .float .f32 c]) ∧ IsSp a b c (spDiv p t)) ∧ Below w.heap.size w w' := l06Over x y z b t p hp hb w

set_option maxHeartbeats 2000000 in
set_option maxRecDepth 100000 in
theorem meanOf (lo hi : Nat) (ao : Option Addr) (c : Nat) (qs : List Sp) (hn : qs.length ≤ 1048576) (w : World) (hs : SlP w lo hi ao qs) (hh : hi ≤ w.heap.size) :
    Calls Try.prog 92 #[.slice ao qs.length c] w fun e w' => (∃ a b c, e = .returned (spV a b c) ∧ IsSp a b c (meanQ qs)) ∧ Below w.heap.size w w' := by
  have HS := Lib.hid hs
  clear hs
  unfold spV
  go_enter Try.func92, Try.ntmps92
  go_wp2_with fail
  go_loopw [9] (fun i wr => ∃ (k x y z : Nat), k ≤ qs.length ∧ i = .int .i64 k ∧ Hid (Below w.heap.size w wr) ∧ Hid (OwnC wr (w.heap.size + 1) #[.float .f32 x, .float .f32 y, .float .f32 z] 79) ∧ Hid (OwnC wr w.heap.size #[.float .f32 0, .float .f32 0, .float .f32 0] 79) ∧ Hid (IsSp x y z (sumQ qs k))) (fun i _ => qs.length - (intOf i).toNat)
  case atStart =>
    refine ⟨0, 0, 0, 0, by omega, rfl, Lib.hid (by (repeat (first | exact Below.refl _ _ | assumption | refine below_dr ?_ _ | refine Below.alloc ?_ (by first | omega | (simp; done) | (simp; omega)) _ | refine Below.setCell ?_ (by first | omega | (simp; done) | (simp; omega)) _ | refine Below.trans ?_ (Below.mono (by assumption) (by first | omega | (simp; done) | (simp; omega)))))), Lib.hid (OwnC.new (by simp)), Lib.hid ((OwnC.new rfl).alloc _), Lib.hid ?_⟩
    show (can .f32 0, can .f32 0, can .f32 0) = _
    rw [can_l5]; rfl
  case round =>
    obtain ⟨k, x, y, z, hk, rfl, HW, HO, HZ, HQ⟩ := hrel
    have o0 := HO.out.cell 0
    have o1 := HO.out.cell 1
    have o2 := HO.out.cell 2
    have f0 := HO.out.free 0
    have f1 := HO.out.free 1
    have f2 := HO.out.free 2
    simp at o0 o1 o2
    by_cases hlt : k < qs.length
    · obtain ⟨b1, of1, rfl, _, q1, hc1⟩ := HS.out.far (Far.below HW.out hh) (by omega)
      obtain ⟨x', y', z', c1, c2, c3, g1, g2, g3⟩ := hc1 k hlt
      have HP := Lib.hid (IsSp.of g1 g2 g3)
      have hz := HW.out.size
      have hlo := HO.out.lt
      have HW1 := Lib.hid (HW.out.alloc hz (.cells #[.float .f32 x', .float .f32 y', .float .f32 z'] 79))
      have HO1 := Lib.hid (HO.out.alloc (.cells #[.float .f32 x', .float .f32 y', .float .f32 z'] 79))
      have HZ1 := Lib.hid (HZ.out.alloc (.cells #[.float .f32 x', .float .f32 y', .float .f32 z'] 79))
      have d0 := HO1.out.cell 0
      have d1 := HO1.out.cell 1
      have d2 := HO1.out.cell 2
      simp at d0 d1 d2
      have k0 : (0 : Int) ≤ (k : Int) := by omega
      have k1 : (k : Int) < (qs.length : Int) := by omega
      clear hc1 g1 g2 g3 o0 o1 o2
      go_wp2_with (go_at_call 91; refine (addB x y z x' y' z' _ _ HQ.out HP.out _).mono ?_; rintro e w3 ⟨⟨a, b, c, rfl, hab⟩, hb3⟩; have HAB := Lib.hid hab; have HO3 := Lib.hid (HO1.out.below hb3 (by simp; omega)); have HZ3 := Lib.hid (HZ1.out.below hb3 (by simp; omega)); have e0 := HO3.out.cell 0; have e1 := HO3.out.cell 1; have e2 := HO3.out.cell 2; simp at e0 e1 e2; have g0 := HO3.out.free 0; have g1 := HO3.out.free 1; have g2 := HO3.out.free 2; have HW3 := Lib.hid (HW1.out.trans (hb3.mono (by simp; omega))); clear hab hb3 d0 d1 d2)
      have HO4 : Hid (OwnC (((w3.setCell ⟨w.heap.size + 1, 0, none⟩ (.float .f32 a)).setCell ⟨w.heap.size + 1, 1, none⟩ (.float .f32 b)).setCell ⟨w.heap.size + 1, 2, none⟩ (.float .f32 c)) (w.heap.size + 1) #[.float .f32 a, .float .f32 b, .float .f32 c] 79) :=
        (((HO3.out.set 0 _).set 1 _).set 2 _).congr rfl
      have HZ4 : Hid (OwnC (((w3.setCell ⟨w.heap.size + 1, 0, none⟩ (.float .f32 a)).setCell ⟨w.heap.size + 1, 1, none⟩ (.float .f32 b)).setCell ⟨w.heap.size + 1, 2, none⟩ (.float .f32 c)) w.heap.size #[.float .f32 0, .float .f32 0, .float .f32 0] 79) :=
        ((HZ3.out.other _ _ (by simp)).other _ _ (by simp)).other _ _ (by simp)
      go_roundw
      case rel => exact ⟨k + 1, a, b, c, by omega, by go_num, ((HW3.out.setCell (by simp) _).setCell (by simp) _).setCell (by simp) _, HO4, HZ4, HAB⟩
      case measure => simp [intOf]; omega
    · have hkn : k = qs.length := by omega
      subst hkn
      have z0 := HZ.out.cell 0
      have z1 := HZ.out.cell 1
      have z2 := HZ.out.cell 2
      have i0 := HZ.out.free 0
      have i1 := HZ.out.free 1
      have i2 := HZ.out.free 2
      simp at z0 z1 z2
      have zlt := HZ.out.lt
      go_wp2_with (go_at_call 122; refine (byB x y z _ _ _ HQ.out (F32.mk _) _).mono ?_; rintro e w3 ⟨⟨a, b, c, rfl, hab⟩, hb3⟩; have HAB := Lib.hid hab; have HZ3 := Lib.hid (HZ.out.below hb3 zlt); have e0 := HZ3.out.cell 0; have e1 := HZ3.out.cell 1; have e2 := HZ3.out.cell 2; simp at e0 e1 e2; have g0 := HZ3.out.free 0; have g1 := HZ3.out.free 1; have g2 := HZ3.out.free 2; have HW3 := Lib.hid (HW.out.trans (hb3.mono HW.out.size)); clear hab hb3)
      have HZ4 : OwnC (((w3.setCell ⟨w.heap.size, 0, none⟩ (.float .f32 a)).setCell ⟨w.heap.size, 1, none⟩ (.float .f32 b)).setCell ⟨w.heap.size, 2, none⟩ (.float .f32 c)) w.heap.size #[.float .f32 a, .float .f32 b, .float .f32 c] 79 :=
        (((HZ3.out.set 0 _).set 1 _).set 2 _).congr rfl
      have r0 := HZ4.cell 0
      have r1 := HZ4.cell 1
      have r2 := HZ4.cell 2
      simp at r0 r1 r2
      refine bodyPost_ret (v := .agg #[.float .f32 a, .float .f32 b, .float .f32 c]) (by simp [results, Try.results92, go_sem, *]) rfl ⟨⟨a, b, c, rfl, HAB.out⟩, ?_⟩
      exact ((HW3.out.setCell (by simp) _).setCell (by simp) _).setCell (by simp) _
end Go.Proofs.Ytbmahankleijkaa

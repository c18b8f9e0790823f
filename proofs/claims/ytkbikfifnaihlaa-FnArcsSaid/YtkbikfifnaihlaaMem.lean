/- Nets in memory: slices of numbers, of spots and of facets, by what they read as. -/
import Derived.Test.YtkbikfifnaihlaaPl
namespace Go.Fl

/-- a spot: three numbers, their not-a-numbers made one -/
abbrev Sp := Nat × Nat × Nat
/-- the number, the spot, the facet at a place -/
def iAt (xs : List Int) (i : Nat) : Int := xs.getD i 0
def pAt (ps : List Sp) (i : Nat) : Sp := ps.getD i (0, 0, 0)
def fAt (fs : List (List Int)) (i : Nat) : List Int := fs.getD i []

/-- the blocks from lo up to hi hold in w' what they hold in w -/
def Far (lo hi : Nat) (w w' : World) : Prop := ∀ b, lo ≤ b → b < hi → w'.heap[b]? = w.heap[b]?
theorem Far.below {B lo hi : Nat} {w w' : World} (h : RowKit.Below B w w') (hb : hi ≤ B) : Far lo hi w w' := fun b _ h2 => h.block b (by omega)
theorem Far.cell {lo hi : Nat} {w w' : World} (h : Far lo hi w w') {b o : Nat} (h1 : lo ≤ b) (h2 : b < hi) : w'.cell? ⟨b, o, none⟩ = w.cell? ⟨b, o, none⟩ :=
  World.cell?_of_block (w := w) (a := ⟨b, o, none⟩) (h b h1 h2)
theorem Far.trans {lo hi : Nat} {a b c : World} (h : Far lo hi a b) (k : Far lo hi b c) : Far lo hi a c := fun i h1 h2 => (k i h1 h2).trans (h i h1 h2)
theorem Far.refl (lo hi : Nat) (w : World) : Far lo hi w w := fun _ _ _ => rfl
theorem Far.set {lo hi : Nat} {a w : World} (h : Far lo hi a w) (p : Addr) (v : Value) (hp : p.block < lo ∨ hi ≤ p.block) : Far lo hi a (w.setCell p v) := fun i h1 h2 => (RowKit.Below.heap_setCell _ _ _ _ (by omega)).trans (h i h1 h2)
theorem Far.alloc {lo hi : Nat} {a w : World} (h : Far lo hi a w) (o : Obj) (hh : hi ≤ w.heap.size) : Far lo hi a (w.alloc o) := fun i h1 h2 => (RowKit.Below.heap_alloc _ _ _ (by omega)).trans (h i h1 h2)
theorem Far.drewN {lo hi : Nat} {a w : World} (h : Far lo hi a w) (n : Nat) : Far lo hi a (w.drewN n) := h
theorem Far.mono {lo hi lo' hi' : Nat} {w w' : World} (h : Far lo hi w w') (hl : lo ≤ lo') (hh : hi' ≤ hi) : Far lo' hi' w w' := fun b h1 h2 => h b (by omega) (by omega)

theorem keep_cell {w w' : World} {b o : Nat} {v : Value} (h : RowKit.Below w.heap.size w w') (hc : w.cell? ⟨b, o, none⟩ = some v) : w'.cell? ⟨b, o, none⟩ = some v :=
  (h.cell (p := ⟨b, o, none⟩) (World.block_lt_of_cell? w _ hc)).trans hc

/-- a slice at ao reads as the numbers xs; its block lies from lo up to hi -/
def SlI (w : World) (lo hi : Nat) (ao : Option Addr) (xs : List Int) : Prop :=
  0 < xs.length → ∃ b off, ao = some ⟨b, off, none⟩ ∧ lo ≤ b ∧ b < hi ∧ ∀ i, i < xs.length → w.cell? ⟨b, off + i, none⟩ = some (.int .i64 (iAt xs i))
/-- a slice at ao reads as the spots ps -/
def SlP (w : World) (lo hi : Nat) (ao : Option Addr) (ps : List Sp) : Prop :=
  0 < ps.length → ∃ b off, ao = some ⟨b, off, none⟩ ∧ lo ≤ b ∧ b < hi ∧ ∀ i, i < ps.length → ∃ x y z,
    w.cell? ⟨b, off + i * 3, none⟩ = some (.float .f32 x) ∧ w.cell? ⟨b, off + i * 3 + 1, none⟩ = some (.float .f32 y) ∧ w.cell? ⟨b, off + i * 3 + 2, none⟩ = some (.float .f32 z) ∧
    F32 x (pAt ps i).1 ∧ F32 y (pAt ps i).2.1 ∧ F32 z (pAt ps i).2.2
/-- a slice at ao reads as the facets fs -/
def SlN (w : World) (lo hi : Nat) (ao : Option Addr) (fs : List (List Int)) : Prop :=
  0 < fs.length → ∃ b off, ao = some ⟨b, off, none⟩ ∧ lo ≤ b ∧ b < hi ∧ ∀ i, i < fs.length → ∃ ai ci,
    w.cell? ⟨b, off + i, none⟩ = some (.slice ai (fAt fs i).length ci) ∧ SlI w lo hi ai (fAt fs i)

theorem SlI.far {w w' : World} {lo hi : Nat} {ao : Option Addr} {xs : List Int} (h : SlI w lo hi ao xs) (hf : Far lo hi w w') : SlI w' lo hi ao xs := fun hp => by
  obtain ⟨b, off, rfl, h1, h2, hc⟩ := h hp
  exact ⟨b, off, rfl, h1, h2, fun i hi => (hf.cell h1 h2).trans (hc i hi)⟩
theorem SlI.mono {w : World} {lo hi lo' hi' : Nat} {ao : Option Addr} {xs : List Int} (h : SlI w lo hi ao xs) (hl : lo' ≤ lo) (hh : hi ≤ hi') : SlI w lo' hi' ao xs := fun hp => by
  obtain ⟨b, off, rfl, h1, h2, hc⟩ := h hp
  exact ⟨b, off, rfl, by omega, by omega, hc⟩
theorem SlP.far {w w' : World} {lo hi : Nat} {ao : Option Addr} {ps : List Sp} (h : SlP w lo hi ao ps) (hf : Far lo hi w w') : SlP w' lo hi ao ps := fun hp => by
  obtain ⟨b, off, rfl, h1, h2, hc⟩ := h hp
  refine ⟨b, off, rfl, h1, h2, fun i hi => ?_⟩
  obtain ⟨x, y, z, c1, c2, c3, f1, f2, f3⟩ := hc i hi
  exact ⟨x, y, z, (hf.cell h1 h2).trans c1, (hf.cell h1 h2).trans c2, (hf.cell h1 h2).trans c3, f1, f2, f3⟩
theorem SlP.mono {w : World} {lo hi lo' hi' : Nat} {ao : Option Addr} {ps : List Sp} (h : SlP w lo hi ao ps) (hl : lo' ≤ lo) (hh : hi ≤ hi') : SlP w lo' hi' ao ps := fun hp => by
  obtain ⟨b, off, rfl, h1, h2, hc⟩ := h hp
  exact ⟨b, off, rfl, by omega, by omega, hc⟩
theorem SlN.far {w w' : World} {lo hi : Nat} {ao : Option Addr} {fs : List (List Int)} (h : SlN w lo hi ao fs) (hf : Far lo hi w w') : SlN w' lo hi ao fs := fun hp => by
  obtain ⟨b, off, rfl, h1, h2, hc⟩ := h hp
  refine ⟨b, off, rfl, h1, h2, fun i hi => ?_⟩
  obtain ⟨ai, ci, c1, s1⟩ := hc i hi
  exact ⟨ai, ci, (hf.cell h1 h2).trans c1, s1.far hf⟩
theorem SlN.mono {w : World} {lo hi lo' hi' : Nat} {ao : Option Addr} {fs : List (List Int)} (h : SlN w lo hi ao fs) (hl : lo' ≤ lo) (hh : hi ≤ hi') : SlN w lo' hi' ao fs := fun hp => by
  obtain ⟨b, off, rfl, h1, h2, hc⟩ := h hp
  refine ⟨b, off, rfl, by omega, by omega, fun i hi => ?_⟩
  obtain ⟨ai, ci, c1, s1⟩ := hc i hi
  exact ⟨ai, ci, c1, s1.mono hl hh⟩

/-- the value of a net: two slices -/
def netV (sa fa : Option Addr) (n cn m cm : Nat) : Value := .agg #[.slice sa n cn, .slice fa m cm]
/-- a net whose slices lie at sa and fa reads as spots ps and facets fs -/
structure NetAt (w : World) (lo hi : Nat) (sa fa : Option Addr) (ps : List Sp) (fs : List (List Int)) : Prop where
  spots : SlP w lo hi sa ps
  facets : SlN w lo hi fa fs
theorem NetAt.far {w w' : World} {lo hi : Nat} {sa fa : Option Addr} {ps : List Sp} {fs : List (List Int)} (h : NetAt w lo hi sa fa ps fs) (hf : Far lo hi w w') : NetAt w' lo hi sa fa ps fs := ⟨h.1.far hf, h.2.far hf⟩
theorem NetAt.mono {w : World} {lo hi lo' hi' : Nat} {sa fa : Option Addr} {ps : List Sp} {fs : List (List Int)} (h : NetAt w lo hi sa fa ps fs) (hl : lo' ≤ lo) (hh : hi ≤ hi') : NetAt w lo' hi' sa fa ps fs := ⟨h.1.mono hl hh, h.2.mono hl hh⟩

/-- block b is the walk's own, has room for n cells, none of them frozen -/
def Room (w : World) (b n : Nat) : Prop := ∃ cs T, OwnC w b cs T ∧ n ≤ cs.size
theorem Room.cell {w : World} {b n i : Nat} (h : Room w b n) (hi : i < n) : ∃ v, w.cell? ⟨b, i, none⟩ = some v := by
  obtain ⟨cs, T, h1, h2⟩ := h
  exact ⟨cs[i], by rw [h1.cell]; simp [show i < cs.size by omega]⟩
theorem Room.free {w : World} {b n : Nat} (h : Room w b n) (i : Nat) : w.frozen? ⟨b, i, none⟩ = false := by
  obtain ⟨cs, T, h1, h2⟩ := h
  exact h1.free i
theorem Room.lt {w : World} {b n : Nat} (h : Room w b n) : b < w.heap.size := by
  obtain ⟨cs, T, h1, h2⟩ := h
  exact h1.lt
theorem Room.set {w : World} {b n : Nat} (h : Room w b n) (b' i : Nat) (v : Value) : Room (w.setCell ⟨b', i, none⟩ v) b n := by
  obtain ⟨cs, T, h1, h2⟩ := h
  by_cases hb : b = b'
  · subst hb
    exact ⟨_, T, h1.set i v, by simpa using h2⟩
  · exact ⟨cs, T, h1.other _ _ hb, h2⟩
theorem Room.far {w w' : World} {b n lo hi : Nat} (h : Room w b n) (hf : Far lo hi w w') (h1 : lo ≤ b) (h2 : b < hi) : Room w' b n := by
  obtain ⟨cs, T, h3, h4⟩ := h
  exact ⟨cs, T, (hf b h1 h2).trans h3, h4⟩
theorem Room.mono {w : World} {b n m : Nat} (h : Room w b n) (hm : m ≤ n) : Room w b m := by
  obtain ⟨cs, T, h3, h4⟩ := h
  exact ⟨cs, T, h3, by omega⟩
end Go.Fl

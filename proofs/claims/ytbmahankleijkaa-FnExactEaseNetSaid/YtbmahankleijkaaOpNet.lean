/- How a net among the arguments of a law is opened. -/
import Derived.Test.YtbmahankleijkaaOpen
import Derived.Test.YtbmahankleijkaaSz
import Derived.Deep.Slices
import Derived.Deep.Strs
namespace Go.Proofs.Ytbmahankleijkaa
open Go.ChangeShapes Go.WideShapes Go.ChangeAt Go.RowKit Go.Joins Go.Fl Go.Deep

theorem maxLen_le : maxLen ≤ 9223372036854775807 := by decide
theorem cells_spot {w : World} {a : Addr} {v : Value} (h : w.cell? a = some v) : a.spot = none := by
  unfold World.cell? at h
  split at h
  · split at h
    · cases h
    · rename_i h1; cases hs : a.spot <;> simp_all
  · cases h

section
variable {H : Type} {enc : TypeId × Value → H} {w : World} {spare : Nat → Bool} {held : Bool}

theorem openInts {fuel : Nat} {cs : List Value} {x : DataW H × List MemPlace} (h : DataW.trod enc Try.prog w 0 spare held fuel 27 cs = some x) :
    ∃ ao n c xs, cs = [.slice ao n c] ∧ n = xs.length ∧ n ≤ 9223372036854775807 ∧ SlI w 0 w.heap.size ao xs := by
  rcases open_ints Try.underlying27 Try.underlying2 (by kernel_rfl) h with ⟨rfl, _⟩ | ⟨a, len, cap, zs, rfl, _, hlc, hm, hz, _, hc, _⟩
  · exact ⟨none, 0, 0, [], rfl, rfl, by omega, fun h => absurd h (Nat.not_lt_zero _)⟩
  · have hle : len ≤ zs.length := by rw [hz]; split <;> omega
    refine ⟨some a, len, cap, zs.take len, rfl, by simp; omega, Nat.le_trans hlc (Nat.le_trans hm maxLen_le), fun hp => ?_⟩
    simp only [List.length_take] at hp
    have hc0 := hc 0 (by omega)
    have hs : a.spot = none := cells_spot (a := a) (by simpa [Addr.add] using hc0)
    refine ⟨a.block, a.off, by cases a; simp_all, Nat.zero_le _, World.block_lt_of_cell? w a (by simpa [Addr.add] using hc0), fun i hi => ?_⟩
    simp only [List.length_take] at hi
    have := hc i (by omega)
    have he : a.add i = ⟨a.block, a.off + i, none⟩ := by
      unfold Addr.add
      by_cases h0 : i = 0
      · subst h0; cases a; simp_all
      · simp [h0]
    rw [he] at this
    rw [this]
    simp [iAt, List.getElem?_take, show i < len by omega]

set_option maxRecDepth 100000 in
theorem openSpot {fuel : Nat} {cs : List Value} {x : DataW H × List MemPlace} (h : DataW.trod enc Try.prog w 0 spare held fuel 121 cs = some x) :
    ∃ a b c, cs = [.float .f32 a, .float .f32 b, .float .f32 c] := by
  obtain ⟨y0, y1, y2, n, _, hl, h0, h1, h2⟩ := trod_struct3 Try.underlying121 h
  rw [show Try.prog.cellsOf 121 = 3 from by kernel_rfl] at hl
  match cs, hl with
  | [c0, c1, c2], _ =>
    rw [show Try.prog.cellsOf 48 = 1 from by kernel_rfl] at h0 h1 h2
    obtain ⟨a, rfl, _⟩ := trod_float Try.underlying48 (by simpa using h0)
    obtain ⟨b, rfl, _⟩ := trod_float Try.underlying48 (by simpa using h1)
    obtain ⟨c, rfl, _⟩ := trod_float Try.underlying48 (by simpa using h2)
    exact ⟨a, b, c, rfl⟩

theorem addr_add {a : Addr} (hs : a.spot = none) (i : Nat) : a.add i = ⟨a.block, a.off + i, none⟩ := by
  unfold Addr.add
  by_cases h0 : i = 0
  · subst h0; cases a; simp_all
  · simp [h0]

set_option maxRecDepth 100000 in
theorem openSpots {fuel : Nat} {cs : List Value} {x : DataW H × List MemPlace} (h : DataW.trod enc Try.prog w 0 spare held fuel 22 cs = some x) :
    ∃ ao n c ps, cs = [.slice ao n c] ∧ n = ps.length ∧ n ≤ 9223372036854775807 ∧ SlP w 0 w.heap.size ao ps := by
  rcases open_slice Try.underlying22 h with ⟨rfl, _⟩ | ⟨a, len, cap, m, n, D, Pl, rfl, _, hlc, hm, hmm, _, hx⟩
  · exact ⟨none, 0, 0, [], rfl, rfl, by omega, fun h => absurd h (Nat.not_lt_zero _)⟩
  · have hle : len ≤ m := by rw [hmm]; split <;> omega
    rw [show Try.prog.cellsOf 121 = 3 from by kernel_rfl] at hx
    have hsp : 0 < len → a.spot = none := fun hp => by
      obtain ⟨cs', hc, ht⟩ := hx 0 (by omega)
      obtain ⟨_, _, hcell⟩ := World.cells?_some hc
      obtain ⟨u, v, z, rfl⟩ := openSpot ht
      have := hcell 0 (by omega)
      exact cells_spot (a := a) (by simpa [Addr.add] using this)
    obtain ⟨f, hf⟩ := choose_lt (α := Nat × Nat × Nat) (n := m) (p := fun i y => ∀ (hs : a.spot = none), w.cell? ⟨a.block, a.off + i * 3, none⟩ = some (.float .f32 y.1) ∧ w.cell? ⟨a.block, a.off + i * 3 + 1, none⟩ = some (.float .f32 y.2.1) ∧ w.cell? ⟨a.block, a.off + i * 3 + 2, none⟩ = some (.float .f32 y.2.2)) (fun i hi => by
      obtain ⟨cs', hc, ht⟩ := hx i hi
      obtain ⟨_, _, hcell⟩ := World.cells?_some hc
      obtain ⟨u, v, z, rfl⟩ := openSpot ht
      refine ⟨(u, v, z), fun hs => ?_⟩
      have e0 := hcell 0 (by omega)
      have e1 := hcell 1 (by omega)
      have e2 := hcell 2 (by omega)
      rw [addr_add hs, addr_add (by rfl)] at e0 e1 e2
      exact ⟨by simpa using e0, by simpa [Nat.add_assoc] using e1, by simpa [Nat.add_assoc] using e2⟩)
    refine ⟨some a, len, cap, (List.range len).map (fun i => (can .f32 (f i).1, can .f32 (f i).2.1, can .f32 (f i).2.2)), rfl, by simp, Nat.le_trans hlc (Nat.le_trans hm maxLen_le), fun hp => ?_⟩
    simp only [List.length_map, List.length_range] at hp
    have hs := hsp hp
    refine ⟨a.block, a.off, by cases a; simp_all, Nat.zero_le _, World.block_lt_of_cell? w ⟨a.block, a.off + 0 * 3, none⟩ (hf 0 (by omega) hs).1, fun i hi => ?_⟩
    simp only [List.length_map, List.length_range] at hi
    obtain ⟨c0, c1, c2⟩ := hf i (by omega) hs
    exact ⟨_, _, _, c0, c1, c2, by simp [pAt, hi, F32], by simp [pAt, hi, F32], by simp [pAt, hi, F32]⟩

theorem openFacet {fuel : Nat} {v : Value} {x : DataW H × List MemPlace} (h : DataW.trod enc Try.prog w 0 spare held fuel 116 [v] = some x) :
    ∃ ao n c xs, v = .slice ao n c ∧ n = xs.length ∧ n ≤ 9223372036854775807 ∧ SlI w 0 w.heap.size ao xs := by
  obtain ⟨y0, n, _, hl, h0⟩ := trod_struct1 Try.underlying116 h
  rw [show Try.prog.cellsOf 27 = 1 from by kernel_rfl] at h0
  obtain ⟨ao, n, c, xs, hv, r⟩ := openInts (by simpa using h0)
  exact ⟨ao, n, c, xs, by simpa using hv, r⟩

theorem openFacets {fuel : Nat} {cs : List Value} {x : DataW H × List MemPlace} (h : DataW.trod enc Try.prog w 0 spare held fuel 23 cs = some x) :
    ∃ ao n c fs, cs = [.slice ao n c] ∧ n = fs.length ∧ n ≤ 9223372036854775807 ∧ Short fs 9223372036854775807 fs.length ∧ SlN w 0 w.heap.size ao fs := by
  rcases open_slice1 Try.underlying23 (by kernel_rfl) h with ⟨rfl, _⟩ | ⟨a, len, cap, m, n, V, D, Pl, rfl, _, hlc, hm, hmm, _, hx⟩
  · exact ⟨none, 0, 0, [], rfl, rfl, by omega, Short.zero _ _, fun h => absurd h (Nat.not_lt_zero _)⟩
  · have hle : len ≤ m := by rw [hmm]; split <;> omega
    obtain ⟨f, hf⟩ := choose_lt (α := List Int) (n := m) (p := fun i xs => ∃ ao c, V i = .slice ao xs.length c ∧ xs.length ≤ 9223372036854775807 ∧ SlI w 0 w.heap.size ao xs) (fun i hi => by
      obtain ⟨ao, n, c, xs, hv, rfl, hb, hs⟩ := openFacet (hx i hi).2
      exact ⟨xs, ao, c, hv, hb, hs⟩)
    have hat : ∀ i, i < len → fAt ((List.range len).map f) i = f i := fun i hi => by simp [fAt, hi]
    refine ⟨some a, len, cap, (List.range len).map f, rfl, by simp, Nat.le_trans hlc (Nat.le_trans hm maxLen_le), fun j hj => ?_, fun hp => ?_⟩
    · simp only [List.length_map, List.length_range] at hj
      rw [hat j hj]
      obtain ⟨_, _, _, hb, _⟩ := hf j (by omega)
      exact hb
    · simp only [List.length_map, List.length_range] at hp
      have hs : a.spot = none := cells_spot (a := a) (by simpa [Addr.add] using (hx 0 (by omega)).1)
      refine ⟨a.block, a.off, by cases a; simp_all, Nat.zero_le _, World.block_lt_of_cell? w a (by simpa [Addr.add] using (hx 0 (by omega)).1), fun i hi => ?_⟩
      simp only [List.length_map, List.length_range] at hi
      obtain ⟨ao, c, hv, _, hsi⟩ := hf i (by omega)
      have hcell := (hx i (by omega)).1
      rw [addr_add hs, hv] at hcell
      rw [hat i hi]
      exact ⟨ao, c, hcell, hsi⟩

set_option maxRecDepth 100000 in
theorem openNet {r : Reach} {b0 : Nat} {v : Value} {d : DataW H} {p : List MemPlace} (hv : Value.okWide Try.prog w r b0 25 v) (h : DataW.Trod enc Try.prog w 0 spare held 25 v d p) :
    ∃ sa fa cn cm ps fs, v = netV sa fa (List.length ps) cn (List.length fs) cm ∧ ps.length ≤ 9223372036854775807 ∧ fs.length ≤ 9223372036854775807 ∧ Short fs 9223372036854775807 fs.length ∧ NetAt w 0 w.heap.size sa fa ps fs := by
  obtain ⟨v0, v1, y0, y1, n, rfl, _, _, h0, h1⟩ := open_agg2 Try.underlying25 (by kernel_rfl) (by kernel_rfl) hv h
  obtain ⟨sa, n1, c1, ps, e1, rfl, b1, s1⟩ := openSpots h0
  obtain ⟨fa, n2, c2, fs, e2, rfl, b2, sh, s2⟩ := openFacets h1
  obtain rfl : v0 = _ := by simpa using e1
  obtain rfl : v1 = _ := by simpa using e2
  exact ⟨sa, fa, c1, c2, ps, fs, rfl, b1, b2, sh, s1, s2⟩
end
end Go.Proofs.Ytbmahankleijkaa

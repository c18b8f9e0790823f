/- The lines of a journal found again: plain Lean, no program. -/
import Derived.Test.YtkkijjgdjaedeaaDoorJrn
import Derived.Test.YtkkijjgdjaedeaaDoorLin
import Derived.Lib.IndexMore
namespace Go.Fl
open Go.Lib
theorem index_byte (l : List UInt8) (c : UInt8) : index l [c] = indexByte l c := by
  induction l with
  | nil => rfl
  | cons b l ih =>
    rw [index, indexByte, ih]
    by_cases h : b = c
    · subst h; simp
    · have h1 : ([c].isPrefixOf (b :: l)) = false := by simp [List.isPrefixOf]; exact fun e => h e.symm
      have h2 : (b == c) = false := by simpa using h
      rw [h1, h2]
theorem indexByte_eq {l : List UInt8} {c : UInt8} {o : Nat} (h : l[o]? = some c) (hb : ∀ k, k < o → l[k]? ≠ some c) : indexByte l c = o := by
  by_cases hn : indexByte l c = -1
  · exact absurd h (indexByte_none hn o)
  · have hge := indexByte_ge l c
    obtain ⟨q, hq⟩ := Int.eq_ofNat_of_zero_le (show 0 ≤ indexByte l c by omega)
    obtain ⟨h1, h2⟩ := indexByte_some hq
    rw [hq]
    congr 1
    rcases Nat.lt_trichotomy q o with h3 | h3 | h3
    · exact absurd h1 (hb q h3)
    · exact h3
    · exact absurd h (h2 o h3)
theorem indexByte_no {l : List UInt8} {c : UInt8} (hb : ∀ k : Nat, l[k]? ≠ some c) : indexByte l c = -1 := by
  by_cases hn : indexByte l c = -1
  · exact hn
  · have hge := indexByte_ge l c
    obtain ⟨q, hq⟩ := Int.eq_ofNat_of_zero_le (show 0 ≤ indexByte l c by omega)
    exact absurd (indexByte_some hq).1 (hb q)
/-- the place of the first space -/
def spc (L : ByteArray) : Int := indexByte L.data.toList 32
def wordL (L : ByteArray) : ByteArray := L.extract 0 (spc L).toNat
def tailL (L : ByteArray) : ByteArray := L.extract ((spc L).toNat + 1) L.size
theorem bAt_list {L : ByteArray} {i : Nat} (h : i < L.size) (c : UInt8) : L.data.toList[i]? = some c ↔ bAt L i = (c.toNat : Int) := by
  rw [bAt_lt h, List.getElem?_eq_getElem (by rw [size_list]; exact h)]
  have e : L.data.toList[i]'(by rw [size_list]; exact h) = L[i] := rfl
  rw [e]
  constructor
  · intro h1; rw [Option.some.inj h1]
  · intro h1
    have : L[i].toNat = c.toNat := by omega
    rw [UInt8.toNat_inj.1 this]
theorem spc_at {L : ByteArray} {j : Nat} (hj : j < L.size) (h : bAt L j = 32) (hb : ∀ i, i < j → bAt L i ≠ 32) : spc L = j :=
  indexByte_eq ((bAt_list hj 32).2 h) (fun k hk e => hb k hk ((bAt_list (by omega) 32).1 e))
theorem spc_no {L : ByteArray} (hb : ∀ i, i < L.size → bAt L i ≠ 32) : spc L = -1 :=
  indexByte_no (fun k e => by
    have hk : k < L.size := by
      rw [← size_list]; exact (List.getElem?_eq_some_iff.1 e).1
    exact hb k hk ((bAt_list hk 32).1 e))
theorem spc_lt (L : ByteArray) : spc L = -1 ∨ ∃ j : Nat, spc L = j ∧ j < L.size := by
  by_cases h : spc L = -1
  · exact .inl h
  · have hge := indexByte_ge L.data.toList 32
    obtain ⟨q, hq⟩ := Int.eq_ofNat_of_zero_le (show 0 ≤ indexByte L.data.toList 32 by unfold spc at h; omega)
    refine .inr ⟨q, hq, ?_⟩
    rw [← size_list]
    exact (List.getElem?_eq_some_iff.1 (indexByte_some hq).1).1
theorem tailL_size (L : ByteArray) : (tailL L).size ≤ L.size := by
  unfold tailL; rw [ByteArray.size_extract]; omega
/-- the check behind the first k lines -/
def rch (ps : List ByteArray) : Nat → Int
  | 0 => 0
  | k + 1 => chN (rch ps k) (tailL (sAt ps k)) (tailL (sAt ps k)).size
theorem rch_range (ps : List ByteArray) : ∀ k, 0 ≤ rch ps k ∧ rch ps k < 65003
  | 0 => by unfold rch; omega
  | k + 1 => chN_range _ _ (rch_range ps k).1 (rch_range ps k).2 _
/-- line k is one of a journal -/
def GoodJ (ps : List ByteArray) (k : Nat) : Prop := 0 ≤ spc (sAt ps k) ∧ wordL (sAt ps k) = ⟨(itoa (rch ps (k + 1))).toArray⟩
def rout (ps : List ByteArray) (k : Nat) : List ByteArray := (List.range k).map fun i => tailL (sAt ps i)
theorem rout_succ (ps : List ByteArray) (k : Nat) : rout ps (k + 1) = rout ps k ++ [tailL (sAt ps k)] := by simp [rout, List.range_succ]
theorem rout_len (ps : List ByteArray) (k : Nat) : (rout ps k).length = k := by simp [rout]
def rpos (ps : List ByteArray) (k : Nat) : Nat := lens ps k + k
theorem rpos_succ (ps : List ByteArray) (k : Nat) : rpos ps (k + 1) = rpos ps k + ((sAt ps k).size + 1) := by simp only [rpos, lens]; omega
/-- the first m of n lines, and no more, are a journal -/
def EndsJ (ps : List ByteArray) (n m : Nat) : Prop := m ≤ n ∧ (∀ i, i < m → GoodJ ps i) ∧ (m = n ∨ ¬ GoodJ ps m)
theorem EndsJ.unique {ps : List ByteArray} {n m m' : Nat} (h : EndsJ ps n m) (h' : EndsJ ps n m') : m = m' := by
  obtain ⟨a1, a2, a3⟩ := h
  obtain ⟨b1, b2, b3⟩ := h'
  rcases Nat.lt_trichotomy m m' with h | h | h
  · rcases a3 with rfl | a3
    · omega
    · exact absurd (b2 m h) a3
  · exact h
  · rcases b3 with rfl | b3
    · omega
    · exact absurd (a2 m' h) b3
/-- the pieces from the k-th on are the pieces of what is left -/
theorem cutL_cons {c : UInt8} : ∀ {l p : List UInt8} {q : List UInt8} {qs : List (List UInt8)}, cutL c l = p :: q :: qs → cutL c (l.drop (p.length + 1)) = q :: qs ∧ l.take p.length = p ∧ l[p.length]? = some c ∧ ∀ k, k < p.length → l[k]? ≠ some c
  | [], p, q, qs, h => by simp [cutL] at h
  | b :: l, p, q, qs, h => by
    by_cases hb : b = c
    · subst hb
      rw [cutL_hit] at h
      obtain ⟨rfl, h2⟩ := List.cons.inj h
      exact ⟨by simpa using h2, rfl, by simp, fun k hk => absurd hk (Nat.not_lt_zero _)⟩
    · rw [cutL_miss hb] at h
      cases hc : cutL c l with
      | nil => exact absurd hc (cutL_ne c l)
      | cons p' ps' =>
        rw [hc] at h
        obtain ⟨rfl, rfl⟩ := List.cons.inj h
        obtain ⟨h1, h2, h3, h4⟩ := cutL_cons hc
        refine ⟨by simpa using h1, by simp [h2], by simpa using h3, fun k hk => ?_⟩
        cases k with
        | zero => simpa using hb
        | succ k => simpa using h4 k (by simpa using hk)
theorem cutL_last {c : UInt8} : ∀ {l p : List UInt8}, cutL c l = [p] → l = p ∧ ∀ k : Nat, l[k]? ≠ some c
  | [], p, h => by simp [cutL] at h; subst h; simp
  | b :: l, p, h => by
    by_cases hb : b = c
    · subst hb
      rw [cutL_hit] at h
      exact absurd (List.cons.inj h).2 (cutL_ne _ _)
    · rw [cutL_miss hb] at h
      cases hc : cutL c l with
      | nil => exact absurd hc (cutL_ne c l)
      | cons p' ps' =>
        rw [hc] at h
        obtain ⟨rfl, rfl⟩ := List.cons.inj h
        obtain ⟨h1, h2⟩ := cutL_last hc
        refine ⟨by simp [← h1], fun k => ?_⟩
        cases k with
        | zero => simpa using hb
        | succ k => simpa using h2 k
theorem sAt_piece {s : ByteArray} {c : UInt8} {k : Nat} : (sAt (pieces s c) k).data.toList = (cutL c s.data.toList).getD k [] := by
  unfold sAt pieces
  rw [List.getD_eq_getElem?_getD, List.getElem?_map, List.getD_eq_getElem?_getD]
  cases (cutL c s.data.toList)[k]? <;> rfl
theorem cutL_drop (s : ByteArray) : ∀ k, k ≤ nl s → cutL 10 (s.data.toList.drop (rpos (pieces s 10) k)) = (cutL 10 s.data.toList).drop k ∧ rpos (pieces s 10) k ≤ s.size
  | 0, _ => by simp [rpos, lens]
  | k + 1, h => by
    obtain ⟨ih, ihp⟩ := cutL_drop s k (by omega)
    have hlen : (cutL 10 s.data.toList).length = nl s + 1 := by
      have := pieces_nl s
      unfold pieces at this
      simpa using this
    have hd : (cutL 10 s.data.toList).drop k = (cutL 10 s.data.toList)[k] :: (cutL 10 s.data.toList)[k + 1] :: (cutL 10 s.data.toList).drop (k + 2) := by
      rw [List.drop_eq_getElem_cons (by omega), List.drop_eq_getElem_cons (by omega)]
    have hsz : (sAt (pieces s 10) k).size = ((cutL 10 s.data.toList)[k]).length := by
      rw [← size_list, sAt_piece, List.getD_eq_getElem?_getD, List.getElem?_eq_getElem (by omega)]; rfl
    obtain ⟨h1, h2, h3, _⟩ := cutL_cons (ih.trans hd)
    have h4 := (List.getElem?_eq_some_iff.1 h3).1
    rw [List.length_drop, size_list] at h4
    rw [rpos_succ, hsz]
    refine ⟨?_, by omega⟩
    rw [List.drop_drop] at h1
    rw [h1, List.drop_eq_getElem_cons (i := k + 1) (by omega)]
/-- a newline is left: where it lies, and the line ahead of it -/
theorem next_line (s : ByteArray) (k : Nat) (h : k < nl s) : indexByte ((s.extract (rpos (pieces s 10) k) s.size).data.toList) 10 = ((sAt (pieces s 10) k).size : Nat) ∧ s.extract (rpos (pieces s 10) k) (rpos (pieces s 10) k + (sAt (pieces s 10) k).size) = sAt (pieces s 10) k ∧ rpos (pieces s 10) k + (sAt (pieces s 10) k).size + 1 ≤ s.size := by
  obtain ⟨ih, ihp⟩ := cutL_drop s k (by omega)
  have ih2 := (cutL_drop s (k + 1) (by omega)).2
  rw [rpos_succ] at ih2
  have hlen : (cutL 10 s.data.toList).length = nl s + 1 := by
    have := pieces_nl s
    unfold pieces at this
    simpa using this
  have hd : (cutL 10 s.data.toList).drop k = (cutL 10 s.data.toList)[k] :: (cutL 10 s.data.toList)[k + 1] :: (cutL 10 s.data.toList).drop (k + 2) := by
    rw [List.drop_eq_getElem_cons (by omega), List.drop_eq_getElem_cons (by omega)]
  have hpc : (sAt (pieces s 10) k).data.toList = (cutL 10 s.data.toList)[k] := by
    rw [sAt_piece, List.getD_eq_getElem?_getD, List.getElem?_eq_getElem (by omega)]; rfl
  have hsz : (sAt (pieces s 10) k).size = ((cutL 10 s.data.toList)[k]).length := by
    rw [← size_list, hpc]
  obtain ⟨h1, h2, h3, h4⟩ := cutL_cons (ih.trans hd)
  refine ⟨?_, ?_, by omega⟩
  · rw [extract_data, List.take_of_length_le (by rw [List.length_drop, size_list]; omega), hsz]
    exact indexByte_eq h3 h4
  · rw [extract_piece, show rpos (pieces s 10) k + (sAt (pieces s 10) k).size - rpos (pieces s 10) k = (sAt (pieces s 10) k).size by omega, hsz, h2, ← hpc]
theorem no_line (s : ByteArray) : indexByte ((s.extract (rpos (pieces s 10) (nl s)) s.size).data.toList) 10 = -1 ∧ rpos (pieces s 10) (nl s) ≤ s.size := by
  obtain ⟨ih, ihp⟩ := cutL_drop s (nl s) (Nat.le_refl _)
  have hlen : (cutL 10 s.data.toList).length = nl s + 1 := by
    have := pieces_nl s
    unfold pieces at this
    simpa using this
  have hd : (cutL 10 s.data.toList).drop (nl s) = [(cutL 10 s.data.toList)[nl s]] := by
    rw [List.drop_eq_getElem_cons (by omega), List.drop_eq_nil_of_le (by omega)]
  refine ⟨?_, ihp⟩
  rw [extract_data, List.take_of_length_le (by rw [List.length_drop, size_list]; omega)]
  exact indexByte_no (cutL_last (ih.trans hd)).2
theorem rpos_le (s : ByteArray) {k : Nat} (h : k ≤ nl s) : rpos (pieces s 10) k ≤ s.size := (cutL_drop s k h).2
theorem line_le (s : ByteArray) {k : Nat} (h : k < nl s) : (sAt (pieces s 10) k).size ≤ s.size := by
  have := (next_line s k h).2.2; omega
end Go.Fl

/- Edges of a net, the plain law: the columns A, B, F tell each side's corners and its facet. Contracts: the edges of a net, the reference's. Contract: the closure that collects a net's edges. -/
import Derived.Test.YtkjljajjjhfklaaNj06
import Derived.Test.YtkjljajjjhfklaaNj04
namespace Go.Fl
/-- does side s' go back along side s? -/
def backB (A B : List Int) (s s' : Nat) : Bool := iAt A s' == iAt B s && iAt B s' == iAt A s
/-- is side s the first of its edge? -/
def firstB (A B : List Int) (s : Nat) : Bool := !(List.range s).any (backB A B s)
/-- the first sides of all edges, of the first t sides -/
def firsts (A B : List Int) : Nat → List Nat
  | 0 => []
  | t + 1 => firsts A B t ++ (if firstB A B t then [t] else [])
/-- the facet of the other side of side s's edge, of the first t sides; -1 if there is none -/
def secF (A B F : List Int) (t s : Nat) : Int := match (List.range t).find? (backB A B s) with | some s' => iAt F s' | none => -1
/-- part r of the edge of side s -/
def edP (A B F : List Int) (t s r : Nat) : Int := if r = 0 then iAt A s else if r = 1 then iAt B s else if r = 2 then iAt F s else secF A B F t s
/-- all parts of all edges, of the first t sides -/
def edL (A B F : List Int) (t : Nat) : List Int := (List.range ((firsts A B t).length * 4)).map fun q => edP A B F t ((firsts A B t).getD (q / 4) 0) (q % 4)
/-- where the map tells an edge's place -/
def edM (A B : List Int) (t : Nat) (x y : Int) : Option Value := ((firsts A B t).findIdx? fun s => iAt A s == x && iAt B s == y).map fun (i : Nat) => Value.int .i64 (i : Int)

theorem backB_iff {A B : List Int} {s s' : Nat} : backB A B s s' = true ↔ iAt A s' = iAt B s ∧ iAt B s' = iAt A s := by simp [backB]
theorem firsts_lt {A B : List Int} : ∀ t, ∀ s ∈ firsts A B t, s < t
  | 0, s, h => by simp [firsts] at h
  | t + 1, s, h => by
    simp only [firsts, List.mem_append] at h
    rcases h with h | h
    · have := firsts_lt t s h; omega
    · split at h
      · simp at h; omega
      · simp at h
theorem firsts_len (A B : List Int) : ∀ t, (firsts A B t).length ≤ t
  | 0 => by simp [firsts]
  | t + 1 => by
    have := firsts_len A B t
    simp only [firsts, List.length_append]
    split <;> simp <;> omega
theorem firsts_mem {A B : List Int} {s : Nat} : ∀ t, s < t → firstB A B s = true → s ∈ firsts A B t
  | 0, h, _ => absurd h (Nat.not_lt_zero _)
  | t + 1, h, hf => by
    simp only [firsts, List.mem_append]
    by_cases hs : s = t
    · subst hs; right; simp [hf]
    · exact .inl (firsts_mem t (by omega) hf)
theorem firsts_is {A B : List Int} {s : Nat} : ∀ t, s ∈ firsts A B t → firstB A B s = true
  | 0, h => by simp [firsts] at h
  | t + 1, h => by
    simp only [firsts, List.mem_append] at h
    rcases h with h | h
    · exact firsts_is t h
    · split at h
      · simp at h; subst h; assumption
      · simp at h
theorem edL_len (A B F : List Int) (t : Nat) : (edL A B F t).length = (firsts A B t).length * 4 := by simp [edL]
theorem firsts_yes {A B : List Int} {t : Nat} (h : firstB A B t = true) : firsts A B (t + 1) = firsts A B t ++ [t] := by simp [firsts, h]
theorem firsts_no {A B : List Int} {t : Nat} (h : firstB A B t = false) : firsts A B (t + 1) = firsts A B t := by simp [firsts, h]

theorem firsts_sorted (A B : List Int) : ∀ t, (firsts A B t).Pairwise (· < ·)
  | 0 => by simp [firsts]
  | t + 1 => by
    simp only [firsts, List.pairwise_append]
    refine ⟨firsts_sorted A B t, by split <;> simp, fun p hp q hq => ?_⟩
    split at hq
    · simp at hq; rw [hq]; exact firsts_lt t p hp
    · simp at hq

/-- the way of an edge to its place -/
theorem edM_none {A B : List Int} {t : Nat} {x y : Int} (h : edM A B t x y = none) : ∀ s ∈ firsts A B t, ¬ (iAt A s = x ∧ iAt B s = y) := by
  simp only [edM, Option.map_eq_none_iff, List.findIdx?_eq_none_iff] at h
  intro s hs
  have := h s hs
  simpa using this
theorem edM_some {A B : List Int} {t : Nat} {x y : Int} {v : Value} (h : edM A B t x y = some v) : ∃ (i s : Nat), v = .int .i64 (i : Int) ∧ (firsts A B t)[i]? = some s ∧ iAt A s = x ∧ iAt B s = y := by
  simp only [edM, Option.map_eq_some_iff] at h
  obtain ⟨i, hi, rfl⟩ := h
  obtain ⟨hlt, hp, _⟩ := List.findIdx?_eq_some_iff_getElem.1 hi
  exact ⟨i, _, rfl, List.getElem?_eq_getElem hlt, by simpa using hp⟩

/-- side t is the first of its edge just if the map does not tell the way back -/
theorem edM_first {A B : List Int} {t : Nat} (ho : Once A B (t + 1)) : firstB A B t = (edM A B t (iAt B t) (iAt A t)).isNone := by
  cases hm : edM A B t (iAt B t) (iAt A t) with
  | none =>
    simp only [Option.isNone_none]
    simp only [firstB, Bool.not_eq_true', List.any_eq_false, List.mem_range, Bool.not_eq_true]
    intro s' hs'
    cases hb : backB A B t s' with
    | false => rfl
    | true =>
      exfalso
      have hb2 := backB_iff.1 hb
      cases hf : firstB A B s' with
      | true => exact edM_none hm s' (firsts_mem t hs' hf) hb2
      | false =>
        simp only [firstB, Bool.not_eq_false', List.any_eq_true, List.mem_range] at hf
        obtain ⟨s2, h1, h2⟩ := hf
        have h3 := backB_iff.1 h2
        exact ho s2 t (by omega) (by omega) ⟨by rw [h3.1, hb2.2], by rw [h3.2, hb2.1]⟩
  | some v =>
    simp only [Option.isNone_some]
    obtain ⟨i, s, _, h1, h2, h3⟩ := edM_some hm
    have hs := firsts_lt t s (List.mem_of_getElem? h1)
    simp only [firstB, Bool.not_eq_false', List.any_eq_true, List.mem_range]
    exact ⟨s, hs, backB_iff.2 ⟨h2, h3⟩⟩

theorem secF_succ (A B F : List Int) (t s : Nat) : secF A B F (t + 1) s = if ((List.range t).find? (backB A B s)).isSome then secF A B F t s else if backB A B s t then iAt F t else -1 := by
  unfold secF
  rw [List.range_succ, List.find?_append]
  cases h : (List.range t).find? (backB A B s) with
  | some s' => simp
  | none =>
    simp only [Option.none_or, Option.isSome_none, Bool.false_eq_true, if_false, List.find?_cons, List.find?_nil]
    cases backB A B s t <;> simp
theorem secF_other {A B F : List Int} {t s : Nat} (h : backB A B s t = false) : secF A B F (t + 1) s = secF A B F t s := by
  rw [secF_succ, h]
  split
  · rfl
  · rename_i h2
    unfold secF
    cases h3 : (List.range t).find? (backB A B s) with
    | none => simp
    | some s' => rw [h3] at h2; simp at h2
theorem secF_back {A B F : List Int} {t s : Nat} (ho : Once A B (t + 1)) (h : backB A B s t = true) : secF A B F (t + 1) s = iAt F t := by
  rw [secF_succ, h]
  have : (List.range t).find? (backB A B s) = none := by
    rw [List.find?_eq_none]
    intro s' hs' hb
    have h1 := backB_iff.1 h
    have h2 := backB_iff.1 hb
    exact ho s' t (by simpa using hs') (by omega) ⟨by rw [h2.1, h1.1], by rw [h2.2, h1.2]⟩
  simp [this]
theorem secF_new {A B F : List Int} {t : Nat} (hf : firstB A B t = true) (hne : iAt A t ≠ iAt B t) : secF A B F (t + 1) t = -1 := by
  rw [secF_succ]
  have h1 : (List.range t).find? (backB A B t) = none := by
    simp only [firstB, Bool.not_eq_true', List.any_eq_false, Bool.not_eq_true] at hf
    rw [List.find?_eq_none]
    intro s' hs'
    rw [hf s' hs']; decide
  have h2 : backB A B t t = false := by simp [backB, hne]
  simp [h1, h2]

theorem getD_of {l : List Nat} {i s : Nat} (h : l[i]? = some s) : l.getD i 0 = s := by rw [List.getD_eq_getElem?_getD, h]; rfl

/-- one edge more -/
theorem edL_yes {A B F : List Int} {t : Nat} (ho : Once A B (t + 1)) (hf : firstB A B t = true) (hne : iAt A t ≠ iAt B t) : edL A B F (t + 1) = edL A B F t ++ [iAt A t, iAt B t, iAt F t, -1] := by
  have hnb : ∀ s ∈ firsts A B t, backB A B s t = false := fun s hs => by
    cases hb : backB A B s t with
    | false => rfl
    | true =>
      have h1 := backB_iff.1 hb
      simp only [firstB, Bool.not_eq_true', List.any_eq_false, Bool.not_eq_true] at hf
      have := hf s (by simpa using firsts_lt t s hs)
      rw [show backB A B t s = true from backB_iff.2 ⟨h1.2.symm, h1.1.symm⟩] at this
      cases this
  unfold edL
  rw [firsts_yes hf]
  simp only [List.length_append, List.length_cons, List.length_nil, Nat.zero_add]
  rw [Nat.add_mul, List.range_add, List.map_append]
  congr 1
  · apply List.map_congr_left
    intro q hq
    rw [List.mem_range] at hq
    have hq4 : q / 4 < (firsts A B t).length := by omega
    have hg : (firsts A B t ++ [t]).getD (q / 4) 0 = (firsts A B t).getD (q / 4) 0 := by
      rw [List.getD_eq_getElem?_getD, List.getD_eq_getElem?_getD, List.getElem?_append_left hq4]
    rw [hg]
    have hm : (firsts A B t).getD (q / 4) 0 ∈ firsts A B t := by
      rw [List.getD_eq_getElem?_getD, List.getElem?_eq_getElem hq4]; exact List.getElem_mem hq4
    unfold edP
    rw [secF_other (hnb _ hm)]
  · generalize hn : (firsts A B t).length = n
    have hg : ∀ r, r < 4 → (firsts A B t ++ [t]).getD ((n * 4 + r) / 4) 0 = t := fun r hr => by
      have : (n * 4 + r) / 4 = n := by omega
      rw [this, ← hn]; simp
    have hr : List.range (1 * 4) = [0, 1, 2, 3] := rfl
    rw [hr]
    simp only [List.map_cons, List.map_nil, Function.comp, hg 0 (by omega), hg 1 (by omega), hg 2 (by omega), hg 3 (by omega)]
    have e0 : (n * 4 + 0) % 4 = 0 := by omega
    have e1 : (n * 4 + 1) % 4 = 1 := by omega
    have e2 : (n * 4 + 2) % 4 = 2 := by omega
    have e3 : (n * 4 + 3) % 4 = 3 := by omega
    simp only [e0, e1, e2, e3]
    simp [edP, secF_new hf hne]

/-- the other side of an edge -/
theorem edL_no {A B F : List Int} {t i s : Nat} (ho : Once A B (t + 1)) (hi : (firsts A B t)[i]? = some s) (h2 : iAt A s = iAt B t) (h3 : iAt B s = iAt A t) : edL A B F (t + 1) = (edL A B F t).set (i * 4 + 3) (iAt F t) := by
  have hs := firsts_lt t s (List.mem_of_getElem? hi)
  have hf : firstB A B t = false := by
    simp only [firstB, Bool.not_eq_false', List.any_eq_true, List.mem_range]
    exact ⟨s, hs, backB_iff.2 ⟨h2, h3⟩⟩
  have hil : i < (firsts A B t).length := (List.getElem?_eq_some_iff.1 hi).1
  have hb : backB A B s t = true := backB_iff.2 ⟨h3.symm, h2.symm⟩
  have hnd : ∀ j s', (firsts A B t)[j]? = some s' → backB A B s' t = true → j = i := fun j s' hj hb' => by
    have h4 := backB_iff.1 hb'
    have hs' := firsts_lt t s' (List.mem_of_getElem? hj)
    have hss : s' = s := by
      rcases Nat.lt_trichotomy s' s with h | h | h
      · exact absurd ⟨by rw [h2, h4.2], by rw [h3, h4.1]⟩ (ho s' s h (by omega))
      · exact h
      · exact absurd ⟨by rw [h2, h4.2], by rw [h3, h4.1]⟩ (ho s s' h (by omega))
    subst hss
    have hp := firsts_sorted A B t
    rcases Nat.lt_trichotomy j i with h | h | h
    · have := List.pairwise_iff_getElem.1 hp j i (List.getElem?_eq_some_iff.1 hj).1 hil h
      rw [(List.getElem?_eq_some_iff.1 hj).2, (List.getElem?_eq_some_iff.1 hi).2] at this
      omega
    · exact h
    · have := List.pairwise_iff_getElem.1 hp i j hil (List.getElem?_eq_some_iff.1 hj).1 h
      rw [(List.getElem?_eq_some_iff.1 hj).2, (List.getElem?_eq_some_iff.1 hi).2] at this
      omega
  apply List.ext_getElem?
  intro q
  unfold edL
  rw [firsts_no hf, List.getElem?_set]
  by_cases hq : q < (firsts A B t).length * 4
  · have hq4 : q / 4 < (firsts A B t).length := by omega
    have hgs : (firsts A B t)[q / 4]? = some ((firsts A B t).getD (q / 4) 0) := by
      rw [List.getD_eq_getElem?_getD, List.getElem?_eq_getElem hq4]; rfl
    by_cases hqi : i * 4 + 3 = q
    · subst hqi
      have e1 : (i * 4 + 3) / 4 = i := by omega
      have e2 : (i * 4 + 3) % 4 = 3 := by omega
      simp only [List.getElem?_map, List.getElem?_range hq, Option.map_some, e1, e2, getD_of hi]
      simp [edP, secF_back ho hb]
      omega
    · rw [if_neg hqi]
      simp only [List.getElem?_map, List.getElem?_range hq, Option.map_some]
      congr 1
      unfold edP
      by_cases hr : q % 4 = 3
      · have hji : q / 4 ≠ i := fun h => hqi (by omega)
        have : backB A B ((firsts A B t).getD (q / 4) 0) t = false := by
          cases hb' : backB A B ((firsts A B t).getD (q / 4) 0) t with
          | false => rfl
          | true => exact absurd (hnd _ _ hgs hb') hji
        rw [secF_other this]
      · have h012 : q % 4 = 0 ∨ q % 4 = 1 ∨ q % 4 = 2 := by omega
        rcases h012 with h | h | h <;> simp [h]
  · have : ¬ i * 4 + 3 = q := by omega
    rw [if_neg this]
    simp [List.getElem?_eq_none, hq, Nat.not_lt.1 hq]
end Go.Fl

namespace Go.Fl
/-- the corners of those of the first k sides of L for which p holds -/
def prTo (p : Nat → Bool) (A B : List Int) (L : List Nat) : Nat → List Int
  | 0 => []
  | k + 1 => prTo p A B L k ++ (if p (L.getD k 0) then [iAt A (L.getD k 0), iAt B (L.getD k 0)] else [])
theorem prTo_len (p : Nat → Bool) (A B : List Int) (L : List Nat) : ∀ k, (prTo p A B L k).length ≤ 2 * k
  | 0 => by simp [prTo]
  | k + 1 => by
    have := prTo_len p A B L k
    simp only [prTo, List.length_append]
    split <;> simp <;> omega
theorem prTo_yes {p : Nat → Bool} {A B : List Int} {L : List Nat} {k : Nat} (h : p (L.getD k 0) = true) : prTo p A B L (k + 1) = prTo p A B L k ++ [iAt A (L.getD k 0), iAt B (L.getD k 0)] := by rw [prTo, if_pos h]
theorem prTo_no {p : Nat → Bool} {A B : List Int} {L : List Nat} {k : Nat} (h : p (L.getD k 0) = false) : prTo p A B L (k + 1) = prTo p A B L k := by rw [prTo, if_neg (by rw [h]; decide), List.append_nil]
theorem prTo_congr {p p' : Nat → Bool} {A B : List Int} {L : List Nat} : ∀ k, (∀ i, i < k → p (L.getD i 0) = p' (L.getD i 0)) → prTo p A B L k = prTo p' A B L k
  | 0, _ => rfl
  | k + 1, h => by simp only [prTo]; rw [prTo_congr k (fun i hi => h i (by omega)), h k (by omega)]
/-- the place of the way back -/
def backAt (A B : List Int) (s : Nat) : Int := sideAt A B (iAt B s) (iAt A s)
theorem backAt_none {A B : List Int} {s : Nat} (h : backAt A B s < 0) : ∀ t, t < A.length → backB A B s t = false := fun t ht => by
  cases hb : backB A B s t with
  | false => rfl
  | true =>
    have h1 := backB_iff.1 hb
    unfold backAt sideAt at h
    have : (0 : Int) ≤ idx (fun i => iAt A i == iAt B s && iAt B i == iAt A s) (List.range A.length) := by
      have h2 := idx_ge (fun i => iAt A i == iAt B s && iAt B i == iAt A s) (List.range A.length)
      rw [show (List.range A.length).any (fun i => iAt A i == iAt B s && iAt B i == iAt A s) = true from List.any_eq_true.2 ⟨t, by simpa using ht, by simp [h1.1, h1.2]⟩] at h2
      simpa using h2
    omega
theorem backAt_some {A B : List Int} {s : Nat} (h : ¬ backAt A B s < 0) : ∃ t, t < A.length ∧ backAt A B s = t ∧ backB A B s t = true ∧ ∀ r, r < t → backB A B s r = false := by
  unfold backAt sideAt idx at h ⊢
  split at h
  · rename_i hany
    have hlt := List.findIdx_lt_length_of_exists (List.any_eq_true.1 hany)
    rw [List.length_range] at hlt
    refine ⟨_, hlt, by rw [if_pos hany], ?_, fun r hr => ?_⟩
    · have := List.findIdx_getElem (w := by simpa using hlt) (xs := List.range A.length) (p := fun i => iAt A i == iAt B s && iAt B i == iAt A s)
      simp only [List.getElem_range] at this
      exact this
    · have := List.not_of_lt_findIdx hr
      simp only [List.getElem_range] at this
      simpa [backB] using this
  · exact absurd (by decide) h
theorem first_back {A B : List Int} {s : Nat} (hs : s < A.length) (hne : iAt A s ≠ iAt B s) : firstB A B s = true ↔ (backAt A B s < 0 ∨ (s : Int) < backAt A B s) := by
  constructor
  · intro hf
    by_cases h : backAt A B s < 0
    · exact .inl h
    · right
      obtain ⟨t, h1, h2, h3, h4⟩ := backAt_some h
      rw [h2]
      simp only [firstB, Bool.not_eq_true', List.any_eq_false, List.mem_range, Bool.not_eq_true] at hf
      rcases Nat.lt_trichotomy t s with h5 | h5 | h5
      · rw [hf t h5] at h3; cases h3
      · subst h5
        have := backB_iff.1 h3
        exact absurd this.1 hne
      · omega
  · intro h
    simp only [firstB, Bool.not_eq_true', List.any_eq_false, List.mem_range, Bool.not_eq_true]
    intro t ht
    by_cases h0 : backAt A B s < 0
    · exact backAt_none h0 t (by omega)
    · obtain ⟨t', h1, h2, h3, h4⟩ := backAt_some h0
      rw [h2] at h
      exact h4 t (by omega)
theorem secF_neg {A B F : List Int} {s m : Nat} (hm : A.length = m) (hF : ∀ t, t < m → 0 ≤ iAt F t) : (decide (secF A B F m s < 0)) = decide (backAt A B s < 0) := by
  by_cases h : backAt A B s < 0
  · have : (List.range m).find? (backB A B s) = none := by
      rw [List.find?_eq_none]
      intro t ht
      rw [backAt_none h t (by rw [hm]; simpa using ht)]; decide
    rw [decide_eq_true h]
    simp [secF, this]
  · obtain ⟨t, h1, h2, h3, h4⟩ := backAt_some h
    rw [decide_eq_false h, decide_eq_false]
    unfold secF
    cases hf : (List.range m).find? (backB A B s) with
    | none =>
      rw [List.find?_eq_none] at hf
      exact absurd h3 (by simpa using hf t (by rw [← hm]; simpa using h1))
    | some s' =>
      have := hF s' (by simpa using List.mem_of_find?_eq_some hf)
      simp; omega
end Go.Fl
namespace Go.Proofs.Ytkjljajjjhfklaa
open Go.RowKit Go.Fl

end Go.Proofs.Ytkjljajjjhfklaa

namespace Go.Fl
theorem ORow.set {w : World} {e : TypeId} {size b cap n : Nat} {cs : List Value} (h : ORow w e size b cap n cs) (i : Nat) (hi : i < n * size) (v : Value) : ORow (w.setCell ⟨b, i, none⟩ v) e size b cap n (cs.set i v) := by
  obtain ⟨hl, hr⟩ := h
  refine ⟨by simpa using hl, ?_⟩
  rcases hr with ⟨hn, _⟩ | ⟨g, c, cur, hv, hb, hg, h1, h2, h3, h4⟩
  · cases hn
  · have hgb : g = b := by simpa using (Value.slice.inj hv).1.symm
    subst hgb
    refine .inr ⟨g, c, cur.setIfInBounds i v, hv, hb, OwnC.set (T := e) hg i v, h1, h2, by simpa using h3, ?_⟩
    rw [← h4]
    simp only [Array.toList_setIfInBounds]
    rw [List.take_set]
theorem OMap.grow {w : World} {b n m : Nat} {f : Int → Int → Option Value} (h : OMap w b n f) (hm : n ≤ m) : OMap w b m f := by
  obtain ⟨es, clock, h1, h2, r⟩ := h
  exact ⟨es, clock, h1, by omega, r⟩
theorem findIdx?_snoc {α : Type} (p : α → Bool) (l : List α) (x : α) : (l ++ [x]).findIdx? p = match l.findIdx? p with | some i => some i | none => if p x then some l.length else none := by
  rw [List.findIdx?_append]
  cases h : l.findIdx? p with
  | some i => simp
  | none => cases hp : p x <;> simp [List.findIdx?_cons, hp]
end Go.Fl
namespace Go.Proofs.Ytkjljajjjhfklaa
open Go.RowKit Go.Fl

theorem edM_succ {A B : List Int} {t : Nat} (ho : Once A B (t + 1)) (hf : firstB A B t = true) (x y : Int) : put2 (edM A B t) (iAt A t) (iAt B t) (.int .i64 ((firsts A B t).length : Int)) x y = edM A B (t + 1) x y := by
  unfold put2 edM
  rw [firsts_yes hf, findIdx?_snoc]
  by_cases h : x = iAt A t ∧ y = iAt B t
  · obtain ⟨rfl, rfl⟩ := h
    rw [if_pos ⟨rfl, rfl⟩]
    have : (firsts A B t).findIdx? (fun s => iAt A s == iAt A t && iAt B s == iAt B t) = none := by
      rw [List.findIdx?_eq_none_iff]
      intro s hs
      have hlt := firsts_lt t s hs
      have := ho s t hlt (by omega)
      simpa using this
    rw [this]; simp
  · rw [if_neg h]
    cases (firsts A B t).findIdx? (fun s => iAt A s == x && iAt B s == y) with
    | some i => rfl
    | none =>
      have : (iAt A t == x && iAt B t == y) = false := by
        cases hb : (iAt A t == x && iAt B t == y) with
        | false => rfl
        | true => simp at hb; exact absurd ⟨hb.1.symm, hb.2.symm⟩ h
      simp [this]

/-- what the closure keeps: the places' variable in block mb, their map in block M, the edges' variable in block ob -/
structure EJ (mb M ob : Nat) (A B F : List Int) (t : Nat) (P : Nat → Prop) (w : World) : Prop where
  row : ∃ rb cap, (∀ b, P b ↔ b = mb ∨ b = M ∨ b = ob ∨ b = rb) ∧ OwnC w ob #[.slice (some ⟨rb, 0, none⟩) (firsts A B t).length cap] 61 ∧
    ORow w 64 4 rb cap (firsts A B t).length ((edL A B F t).map (Value.int .i64)) ∧ mb ≠ rb ∧ M ≠ rb ∧ ob ≠ rb
  var : OwnC w mb #[.map (some M)] 114
  map : OMap w M t (edM A B t)
  apart : mb ≠ M ∧ mb ≠ ob ∧ M ≠ ob
theorem EJ.keeps (mb M ob : Nat) (A B F : List Int) : Keeps (EJ mb M ob A B F) where
  stable := fun {t P w w'} h hb hz => by
    obtain ⟨rb, cap, hp, h1, h2, h3⟩ := h.row
    refine ⟨⟨rb, cap, hp, (hb ob ((hp ob).2 (by simp))).trans h1, ?_, h3⟩, (hb mb ((hp mb).2 (by simp))).trans h.var, h.map.of_block (hb M ((hp M).2 (by simp))), h.apart⟩
    refine h2.far (lo := rb) (hi := rb + 1) (fun c h4 h5 => ?_) (Nat.le_refl _) (Nat.lt_succ_self _)
    have : c = rb := by omega
    subst this
    exact hb c ((hp c).2 (by simp))
  low := fun {t P w} h b hb => by
    obtain ⟨rb, cap, hp, h1, h2, h3⟩ := h.row
    rcases (hp b).1 hb with rfl | rfl | rfl | rfl
    · exact h.var.lt
    · exact h.map.lt
    · exact h1.lt
    · exact h2.lt
theorem zeroI (w : World) : (zeroValue 3).run Try.prog w = .ok (.int .i64 0) w := by kernel_rfl
theorem infoEdge : (Try.prog.info? 64).map (fun i => (i.zero, i.size, i.bytes)) = some (some (.agg #[.int .i64 0, .int .i64 0, .int .i64 0, .int .i64 0]), 4, 32) := by kernel_rfl

set_option maxHeartbeats 1000000 in
set_option maxRecDepth 100000 in
theorem edges1 (mb M ob t : Nat) (A B F : List Int) (P : Nat → Prop) (j x y : Int) (ht : t ≤ 1099511627776) (hx : iAt A t = x) (hy : iAt B t = y) (hf : iAt F t = j) (hne : x ≠ y) (ix : In64 x) (iy : In64 y) (ho : Once A B (t + 1)) (w : World) (hJ : EJ mb M ob A B F t P w) :
    Calls Try.prog 72 #[.int .i64 j, .int .i64 x, .int .i64 y, .pointer (some ⟨mb, 0, none⟩), .pointer (some ⟨ob, 0, none⟩)] w fun e w' => e = .returned (.tuple #[]) ∧ ∃ P', EJ mb M ob A B F (t + 1) P' w' ∧ Ch P w w' ∧ ∀ b, P' b → P b ∨ w.heap.size ≤ b := by
  subst hx hy hf
  obtain ⟨rb, cap, hp, h1, h2, hr⟩ := hJ.row
  have c1 := hJ.var.cell 0
  have c2 := h1.cell 0
  have f2 := h1.free 0
  simp at c1 c2
  have HJ := Lib.hid hJ
  have HP := Lib.hid hp
  have HO1 := Lib.hid h1
  have HR := Lib.hid h2
  have ha := hJ.apart
  have hfl := firsts_len A B t
  cases hm : edM A B t (iAt B t) (iAt A t) with
  | some v =>
    obtain ⟨i, s, rfl, hi, hs1, hs2⟩ := edM_some hm
    have hil : i < (firsts A B t).length := (List.getElem?_eq_some_iff.1 hi).1
    have hroom := h2.room
    obtain ⟨u, c3⟩ := hroom.cell (i := i * 4 + 3) (by omega)
    have f3 := hroom.free (i * 4 + 3)
    have hE := edL_no (F := F) ho hi hs1 hs2
    have hff : firstB A B t = false := by rw [edM_first ho, hm]; rfl
    have HE := Lib.hid hE
    have HFN := Lib.hid (firsts_no hff)
    have HM := Lib.hid hm
    have k0 : (0 : Int) ≤ (i : Int) := by omega
    have k1 : (i : Int) < ((firsts A B t).length : Int) := by omega
    clear hJ hp h1 h2 hm hi hroom hE hff ho hs1 hs2
    go_enter Try.func72, Try.ntmps72
    go_wp2_with (at_lookup; refine wpList_look _ rfl _ _ _ _ rfl 3 Try.underlying114 _ (zeroI _) M t _ rfl HJ.out.map (iAt B t) (iAt A t) rfl iy ix ?_; simp only [HM.out, Option.getD_some, Option.isSome_some, if_true])
    refine bodyPost_ret (results_none rfl _ _ _) rfl ⟨rfl, P, ⟨⟨rb, cap, HP.out, ?_, ?_, hr⟩, HJ.out.var.other _ _ (by simp; omega), ?_, ha⟩, Ch.set w _ _ ((HP.out rb).2 (by simp)), fun b hb => .inl hb⟩
    · rw [HFN.out]; exact HO1.out.other _ _ (by simp; omega)
    · rw [HFN.out, HE.out, List.map_set]
      exact HR.out.set (i * 4 + 3) (by omega) _
    · refine ((HJ.out.map.of_block (Below.heap_setCell _ _ _ _ (by simp; omega))).grow (Nat.le_succ t)).congr fun x y => ?_
      unfold edM; rw [HFN.out]
  | none =>
    have hff : firstB A B t = true := by rw [edM_first ho, hm]; rfl
    have HE := Lib.hid (edL_yes (F := F) ho hff hne)
    have HFN := Lib.hid (firsts_yes hff)
    have HMS := Lib.hid (edM_succ ho hff)
    have HM := Lib.hid hm
    clear hJ hp h1 h2 hm hff ho
    go_enter Try.func72, Try.ntmps72
    go_wp2_with (first | (at_lookup; refine wpList_look _ rfl _ _ _ _ rfl 3 Try.underlying114 _ (zeroI _) M t _ rfl HJ.out.map (iAt B t) (iAt A t) rfl iy ix ?_; simp only [HM.out, Option.getD_none, Option.isSome_none, if_true]) | (at_mapUpdate; refine wpList_store _ rfl _ _ _ _ rfl 3 Try.underlying114 M t _ rfl HJ.out.map (iAt A t) (iAt B t) rfl ix iy ?_; intro w1 hm1 hg1; have HO2 : Hid (OwnC w1 ob #[.slice (some ⟨rb, 0, none⟩) (firsts A B t).length cap] 61) := (hg1.block ob HO1.out.lt (by omega)).trans HO1.out; have c3 := HO2.out.cell 0; have f3 := HO2.out.free 0; simp at c3; have HR1 := Lib.hid (HR.out.grew hg1 (by omega))) | (at_builtin; refine wpList_app2 rfl _ _ _ rfl 64 (.agg #[.int .i64 0, .int .i64 0, .int .i64 0, .int .i64 0]) 4 32 Try.underlying61 infoEdge rfl (by decide) _ #[.int .i64 (iAt A t), .int .i64 (iAt B t), .int .i64 (iAt F t), .int .i64 (-1)] 64 rfl (by simp [Value.oneCell']) _ rb cap _ _ rfl rfl (by simp) HR1.out (by omega) (by decide) ?_; intro b4 cap4 w4 hr4 hg4 hgr4; have HO4 : Hid (OwnC w4 ob #[.slice (some ⟨rb, 0, none⟩) (firsts A B t).length cap] 61) := (hgr4.block ob HO2.out.lt (by omega)).trans HO2.out; have c4 := HO4.out.cell 0; have f4 := HO4.out.free 0; simp at c4))
    have hm1' : OMap w1 M (t + 1) (edM A B (t + 1)) := by
      have : OMap w1 M (t + 1) (put2 (edM A B t) (iAt A t) (iAt B t) (.int .i64 ((firsts A B t).length : Int))) := hm1
      exact this.congr HMS.out
    have z1 := hg1.size
    have l1 := HO1.out.lt
    have l2 := HR.out.lt
    have l3 := hm1'.lt
    have l4 := HJ.out.var.lt
    have l5 := HJ.out.map.lt
    have hv1 : OwnC w1 mb #[.map (some M)] 114 := (hg1.block mb l4 (by omega)).trans HJ.out.var
    have hv4 : OwnC w4 mb #[.map (some M)] 114 := (hgr4.block mb (by omega) (by omega)).trans hv1
    go_end0
    refine ⟨rfl, fun b => b = mb ∨ b = M ∨ b = ob ∨ b = b4, ⟨⟨b4, cap4, fun _ => Iff.rfl, ?_, ?_, by omega⟩, hv4.other _ _ (by simp; omega), ?_, ha⟩, ?_, fun b hb => ?_⟩
    · rw [HFN.out]
      refine (HO4.out.set 0 _).congr ?_
      simp
    · rw [HFN.out, HE.out]
      have : ORow (w4.setCell ⟨ob, 0, none⟩ (.slice (some ⟨b4, 0, none⟩) ((firsts A B t).length + 1) cap4)) 64 4 b4 cap4 ((firsts A B t).length + 1) ((edL A B F t).map (Value.int .i64) ++ [.int .i64 (iAt A t), .int .i64 (iAt B t), .int .i64 (iAt F t), .int .i64 (-1)]) :=
        hr4.far (lo := b4) (hi := b4 + 1) ((Far.refl _ _ _).set _ _ (by simp; omega)) (Nat.le_refl _) (Nat.lt_succ_self _)
      simpa using this
    · exact ((hm1'.of_block (hgr4.block M (by omega) (by omega)))).of_block (Below.heap_setCell _ _ _ _ (by simp; omega))
    · refine ((Ch.grew hg1 ((HP.out M).2 (by simp))).trans (P' := P) (Ch.grew hgr4 ((HP.out rb).2 (by simp))) (fun b hb => .inl hb)).trans (P' := P) (Ch.set _ _ _ ((HP.out ob).2 (by simp))) (fun b hb => .inl hb)
    · rcases hb with h | h | h | h
      · exact .inl ((HP.out b).2 (.inl h))
      · exact .inl ((HP.out b).2 (.inr (.inl h)))
      · exact .inl ((HP.out b).2 (.inr (.inr (.inl h))))
      · rcases hg4 with h2 | h2
        · exact .inl ((HP.out b).2 (by simp [h, h2]))
        · exact .inr (by omega)
end Go.Proofs.Ytkjljajjjhfklaa

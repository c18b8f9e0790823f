/- Edges of a net, the plain law: the columns A, B, F tell each side's corners and its facet. -/
import Derived.Test.YtbmahankleijkaaV1
namespace Go.Fl
/-- does side s' go back along side s? -/
def backB (A B : List Int) (s s' : Nat) : Bool := iAt A s' == iAt B s && iAt B s' == iAt A s
/-- is side s the first of its edge? -/
def firstB (A B : List Int) (s : Nat) : Bool := !(List.range s).any (backB A B s)
/-- the first sides of all edges, of the first t sides -/
def firsts (A B : List Int) : Nat → List Nat
  | 0 => []
  | t + 1 => firsts A B t ++ (if firstB A B t then [t] else [])
/-- the facet of the other side of side s's edge, of the first t sides; -1 if there is none -/
def secF (A B F : List Int) (t s : Nat) : Int := match (List.range t).find? (backB A B s) with | some s' => iAt F s' | none => -1
/-- part r of the edge of side s -/
def edP (A B F : List Int) (t s r : Nat) : Int := if r = 0 then iAt A s else if r = 1 then iAt B s else if r = 2 then iAt F s else secF A B F t s
/-- all parts of all edges, of the first t sides -/
def edL (A B F : List Int) (t : Nat) : List Int := (List.range ((firsts A B t).length * 4)).map fun q => edP A B F t ((firsts A B t).getD (q / 4) 0) (q % 4)
/-- where the map tells an edge's place -/
def edM (A B : List Int) (t : Nat) (x y : Int) : Option Value := ((firsts A B t).findIdx? fun s => iAt A s == x && iAt B s == y).map fun (i : Nat) => Value.int .i64 (i : Int)

theorem backB_iff {A B : List Int} {s s' : Nat} : backB A B s s' = true ↔ iAt A s' = iAt B s ∧ iAt B s' = iAt A s := by simp [backB]
theorem firsts_lt {A B : List Int} : ∀ t, ∀ s ∈ firsts A B t, s < t
  | 0, s, h => by simp [firsts] at h
  | t + 1, s, h => by
    simp only [firsts, List.mem_append] at h
    rcases h with h | h
    · have := firsts_lt t s h; omega
    · split at h
      · simp at h; omega
      · simp at h
theorem firsts_len (A B : List Int) : ∀ t, (firsts A B t).length ≤ t
  | 0 => by simp [firsts]
  | t + 1 => by
    have := firsts_len A B t
    simp only [firsts, List.length_append]
    split <;> simp <;> omega
theorem firsts_mem {A B : List Int} {s : Nat} : ∀ t, s < t → firstB A B s = true → s ∈ firsts A B t
  | 0, h, _ => absurd h (Nat.not_lt_zero _)
  | t + 1, h, hf => by
    simp only [firsts, List.mem_append]
    by_cases hs : s = t
    · subst hs; right; simp [hf]
    · exact .inl (firsts_mem t (by omega) hf)
theorem firsts_is {A B : List Int} {s : Nat} : ∀ t, s ∈ firsts A B t → firstB A B s = true
  | 0, h => by simp [firsts] at h
  | t + 1, h => by
    simp only [firsts, List.mem_append] at h
    rcases h with h | h
    · exact firsts_is t h
    · split at h
      · simp at h; subst h; assumption
      · simp at h
theorem edL_len (A B F : List Int) (t : Nat) : (edL A B F t).length = (firsts A B t).length * 4 := by simp [edL]
theorem firsts_yes {A B : List Int} {t : Nat} (h : firstB A B t = true) : firsts A B (t + 1) = firsts A B t ++ [t] := by simp [firsts, h]
theorem firsts_no {A B : List Int} {t : Nat} (h : firstB A B t = false) : firsts A B (t + 1) = firsts A B t := by simp [firsts, h]

theorem firsts_sorted (A B : List Int) : ∀ t, (firsts A B t).Pairwise (· < ·)
  | 0 => by simp [firsts]
  | t + 1 => by
    simp only [firsts, List.pairwise_append]
    refine ⟨firsts_sorted A B t, by split <;> simp, fun p hp q hq => ?_⟩
    split at hq
    · simp at hq; rw [hq]; exact firsts_lt t p hp
    · simp at hq

/-- the way of an edge to its place -/
theorem edM_none {A B : List Int} {t : Nat} {x y : Int} (h : edM A B t x y = none) : ∀ s ∈ firsts A B t, ¬ (iAt A s = x ∧ iAt B s = y) := by
  simp only [edM, Option.map_eq_none_iff, List.findIdx?_eq_none_iff] at h
  intro s hs
  have := h s hs
  simpa using this
theorem edM_some {A B : List Int} {t : Nat} {x y : Int} {v : Value} (h : edM A B t x y = some v) : ∃ (i s : Nat), v = .int .i64 (i : Int) ∧ (firsts A B t)[i]? = some s ∧ iAt A s = x ∧ iAt B s = y := by
  simp only [edM, Option.map_eq_some_iff] at h
  obtain ⟨i, hi, rfl⟩ := h
  obtain ⟨hlt, hp, _⟩ := List.findIdx?_eq_some_iff_getElem.1 hi
  exact ⟨i, _, rfl, List.getElem?_eq_getElem hlt, by simpa using hp⟩

/-- side t is the first of its edge just if the map does not tell the way back -/
theorem edM_first {A B : List Int} {t : Nat} (ho : Once A B (t + 1)) : firstB A B t = (edM A B t (iAt B t) (iAt A t)).isNone := by
  cases hm : edM A B t (iAt B t) (iAt A t) with
  | none =>
    simp only [Option.isNone_none]
    simp only [firstB, Bool.not_eq_true', List.any_eq_false, List.mem_range, Bool.not_eq_true]
    intro s' hs'
    cases hb : backB A B t s' with
    | false => rfl
    | true =>
      exfalso
      have hb2 := backB_iff.1 hb
      cases hf : firstB A B s' with
      | true => exact edM_none hm s' (firsts_mem t hs' hf) hb2
      | false =>
        simp only [firstB, Bool.not_eq_false', List.any_eq_true, List.mem_range] at hf
        obtain ⟨s2, h1, h2⟩ := hf
        have h3 := backB_iff.1 h2
        exact ho s2 t (by omega) (by omega) ⟨by rw [h3.1, hb2.2], by rw [h3.2, hb2.1]⟩
  | some v =>
    simp only [Option.isNone_some]
    obtain ⟨i, s, _, h1, h2, h3⟩ := edM_some hm
    have hs := firsts_lt t s (List.mem_of_getElem? h1)
    simp only [firstB, Bool.not_eq_false', List.any_eq_true, List.mem_range]
    exact ⟨s, hs, backB_iff.2 ⟨h2, h3⟩⟩

theorem secF_succ (A B F : List Int) (t s : Nat) : secF A B F (t + 1) s = if ((List.range t).find? (backB A B s)).isSome then secF A B F t s else if backB A B s t then iAt F t else -1 := by
  unfold secF
  rw [List.range_succ, List.find?_append]
  cases h : (List.range t).find? (backB A B s) with
  | some s' => simp
  | none =>
    simp only [Option.none_or, Option.isSome_none, Bool.false_eq_true, if_false, List.find?_cons, List.find?_nil]
    cases backB A B s t <;> simp
theorem secF_other {A B F : List Int} {t s : Nat} (h : backB A B s t = false) : secF A B F (t + 1) s = secF A B F t s := by
  rw [secF_succ, h]
  split
  · rfl
  · rename_i h2
    unfold secF
    cases h3 : (List.range t).find? (backB A B s) with
    | none => simp
    | some s' => rw [h3] at h2; simp at h2
theorem secF_back {A B F : List Int} {t s : Nat} (ho : Once A B (t + 1)) (h : backB A B s t = true) : secF A B F (t + 1) s = iAt F t := by
  rw [secF_succ, h]
  have : (List.range t).find? (backB A B s) = none := by
    rw [List.find?_eq_none]
    intro s' hs' hb
    have h1 := backB_iff.1 h
    have h2 := backB_iff.1 hb
    exact ho s' t (by simpa using hs') (by omega) ⟨by rw [h2.1, h1.1], by rw [h2.2, h1.2]⟩
  simp [this]
theorem secF_new {A B F : List Int} {t : Nat} (hf : firstB A B t = true) (hne : iAt A t ≠ iAt B t) : secF A B F (t + 1) t = -1 := by
  rw [secF_succ]
  have h1 : (List.range t).find? (backB A B t) = none := by
    simp only [firstB, Bool.not_eq_true', List.any_eq_false, Bool.not_eq_true] at hf
    rw [List.find?_eq_none]
    intro s' hs'
    rw [hf s' hs']; decide
  have h2 : backB A B t t = false := by simp [backB, hne]
  simp [h1, h2]

theorem getD_of {l : List Nat} {i s : Nat} (h : l[i]? = some s) : l.getD i 0 = s := by rw [List.getD_eq_getElem?_getD, h]; rfl

/-- one edge more -/
theorem edL_yes {A B F : List Int} {t : Nat} (ho : Once A B (t + 1)) (hf : firstB A B t = true) (hne : iAt A t ≠ iAt B t) : edL A B F (t + 1) = edL A B F t ++ [iAt A t, iAt B t, iAt F t, -1] := by
  have hnb : ∀ s ∈ firsts A B t, backB A B s t = false := fun s hs => by
    cases hb : backB A B s t with
    | false => rfl
    | true =>
      have h1 := backB_iff.1 hb
      simp only [firstB, Bool.not_eq_true', List.any_eq_false, Bool.not_eq_true] at hf
      have := hf s (by simpa using firsts_lt t s hs)
      rw [show backB A B t s = true from backB_iff.2 ⟨h1.2.symm, h1.1.symm⟩] at this
      cases this
  unfold edL
  rw [firsts_yes hf]
  simp only [List.length_append, List.length_cons, List.length_nil, Nat.zero_add]
  rw [Nat.add_mul, List.range_add, List.map_append]
  congr 1
  · apply List.map_congr_left
    intro q hq
    rw [List.mem_range] at hq
    have hq4 : q / 4 < (firsts A B t).length := by omega
    have hg : (firsts A B t ++ [t]).getD (q / 4) 0 = (firsts A B t).getD (q / 4) 0 := by
      rw [List.getD_eq_getElem?_getD, List.getD_eq_getElem?_getD, List.getElem?_append_left hq4]
    rw [hg]
    have hm : (firsts A B t).getD (q / 4) 0 ∈ firsts A B t := by
      rw [List.getD_eq_getElem?_getD, List.getElem?_eq_getElem hq4]; exact List.getElem_mem hq4
    unfold edP
    rw [secF_other (hnb _ hm)]
  · generalize hn : (firsts A B t).length = n
    have hg : ∀ r, r < 4 → (firsts A B t ++ [t]).getD ((n * 4 + r) / 4) 0 = t := fun r hr => by
      have : (n * 4 + r) / 4 = n := by omega
      rw [this, ← hn]; simp
    have hr : List.range (1 * 4) = [0, 1, 2, 3] := rfl
    rw [hr]
    simp only [List.map_cons, List.map_nil, Function.comp, hg 0 (by omega), hg 1 (by omega), hg 2 (by omega), hg 3 (by omega)]
    have e0 : (n * 4 + 0) % 4 = 0 := by omega
    have e1 : (n * 4 + 1) % 4 = 1 := by omega
    have e2 : (n * 4 + 2) % 4 = 2 := by omega
    have e3 : (n * 4 + 3) % 4 = 3 := by omega
    simp only [e0, e1, e2, e3]
    simp [edP, secF_new hf hne]

/-- the other side of an edge -/
theorem edL_no {A B F : List Int} {t i s : Nat} (ho : Once A B (t + 1)) (hi : (firsts A B t)[i]? = some s) (h2 : iAt A s = iAt B t) (h3 : iAt B s = iAt A t) : edL A B F (t + 1) = (edL A B F t).set (i * 4 + 3) (iAt F t) := by
  have hs := firsts_lt t s (List.mem_of_getElem? hi)
  have hf : firstB A B t = false := by
    simp only [firstB, Bool.not_eq_false', List.any_eq_true, List.mem_range]
    exact ⟨s, hs, backB_iff.2 ⟨h2, h3⟩⟩
  have hil : i < (firsts A B t).length := (List.getElem?_eq_some_iff.1 hi).1
  have hb : backB A B s t = true := backB_iff.2 ⟨h3.symm, h2.symm⟩
  have hnd : ∀ j s', (firsts A B t)[j]? = some s' → backB A B s' t = true → j = i := fun j s' hj hb' => by
    have h4 := backB_iff.1 hb'
    have hs' := firsts_lt t s' (List.mem_of_getElem? hj)
    have hss : s' = s := by
      rcases Nat.lt_trichotomy s' s with h | h | h
      · exact absurd ⟨by rw [h2, h4.2], by rw [h3, h4.1]⟩ (ho s' s h (by omega))
      · exact h
      · exact absurd ⟨by rw [h2, h4.2], by rw [h3, h4.1]⟩ (ho s s' h (by omega))
    subst hss
    have hp := firsts_sorted A B t
    rcases Nat.lt_trichotomy j i with h | h | h
    · have := List.pairwise_iff_getElem.1 hp j i (List.getElem?_eq_some_iff.1 hj).1 hil h
      rw [(List.getElem?_eq_some_iff.1 hj).2, (List.getElem?_eq_some_iff.1 hi).2] at this
      omega
    · exact h
    · have := List.pairwise_iff_getElem.1 hp i j hil (List.getElem?_eq_some_iff.1 hj).1 h
      rw [(List.getElem?_eq_some_iff.1 hj).2, (List.getElem?_eq_some_iff.1 hi).2] at this
      omega
  apply List.ext_getElem?
  intro q
  unfold edL
  rw [firsts_no hf, List.getElem?_set]
  by_cases hq : q < (firsts A B t).length * 4
  · have hq4 : q / 4 < (firsts A B t).length := by omega
    have hgs : (firsts A B t)[q / 4]? = some ((firsts A B t).getD (q / 4) 0) := by
      rw [List.getD_eq_getElem?_getD, List.getElem?_eq_getElem hq4]; rfl
    by_cases hqi : i * 4 + 3 = q
    · subst hqi
      have e1 : (i * 4 + 3) / 4 = i := by omega
      have e2 : (i * 4 + 3) % 4 = 3 := by omega
      simp only [List.getElem?_map, List.getElem?_range hq, Option.map_some, e1, e2, getD_of hi]
      simp [edP, secF_back ho hb]
      omega
    · rw [if_neg hqi]
      simp only [List.getElem?_map, List.getElem?_range hq, Option.map_some]
      congr 1
      unfold edP
      by_cases hr : q % 4 = 3
      · have hji : q / 4 ≠ i := fun h => hqi (by omega)
        have : backB A B ((firsts A B t).getD (q / 4) 0) t = false := by
          cases hb' : backB A B ((firsts A B t).getD (q / 4) 0) t with
          | false => rfl
          | true => exact absurd (hnd _ _ hgs hb') hji
        rw [secF_other this]
      · have h012 : q % 4 = 0 ∨ q % 4 = 1 ∨ q % 4 = 2 := by omega
        rcases h012 with h | h | h <;> simp [h]
  · have : ¬ i * 4 + 3 = q := by omega
    rw [if_neg this]
    simp [List.getElem?_eq_none, hq, Nat.not_lt.1 hq]
end Go.Fl

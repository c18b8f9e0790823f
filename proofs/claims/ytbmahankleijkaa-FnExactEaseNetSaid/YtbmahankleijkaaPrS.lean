/- Contracts: the edges of a net, the reference's. -/
import Derived.Test.YtbmahankleijkaaEd
import Derived.Test.YtbmahankleijkaaRow2
import Derived.Test.YtbmahankleijkaaVal
namespace Go.Fl
/-- the corners of those of the first k sides of L for which p holds -/
def prTo (p : Nat → Bool) (A B : List Int) (L : List Nat) : Nat → List Int
  | 0 => []
  | k + 1 => prTo p A B L k ++ (if p (L.getD k 0) then [iAt A (L.getD k 0), iAt B (L.getD k 0)] else [])
theorem prTo_len (p : Nat → Bool) (A B : List Int) (L : List Nat) : ∀ k, (prTo p A B L k).length ≤ 2 * k
  | 0 => by simp [prTo]
  | k + 1 => by
    have := prTo_len p A B L k
    simp only [prTo, List.length_append]
    split <;> simp <;> omega
theorem prTo_yes {p : Nat → Bool} {A B : List Int} {L : List Nat} {k : Nat} (h : p (L.getD k 0) = true) : prTo p A B L (k + 1) = prTo p A B L k ++ [iAt A (L.getD k 0), iAt B (L.getD k 0)] := by rw [prTo, if_pos h]
theorem prTo_no {p : Nat → Bool} {A B : List Int} {L : List Nat} {k : Nat} (h : p (L.getD k 0) = false) : prTo p A B L (k + 1) = prTo p A B L k := by rw [prTo, if_neg (by rw [h]; decide), List.append_nil]
theorem prTo_congr {p p' : Nat → Bool} {A B : List Int} {L : List Nat} : ∀ k, (∀ i, i < k → p (L.getD i 0) = p' (L.getD i 0)) → prTo p A B L k = prTo p' A B L k
  | 0, _ => rfl
  | k + 1, h => by simp only [prTo]; rw [prTo_congr k (fun i hi => h i (by omega)), h k (by omega)]
/-- the place of the way back -/
def backAt (A B : List Int) (s : Nat) : Int := sideAt A B (iAt B s) (iAt A s)
theorem backAt_none {A B : List Int} {s : Nat} (h : backAt A B s < 0) : ∀ t, t < A.length → backB A B s t = false := fun t ht => by
  cases hb : backB A B s t with
  | false => rfl
  | true =>
    have h1 := backB_iff.1 hb
    unfold backAt sideAt at h
    have : (0 : Int) ≤ idx (fun i => iAt A i == iAt B s && iAt B i == iAt A s) (List.range A.length) := by
      have h2 := idx_ge (fun i => iAt A i == iAt B s && iAt B i == iAt A s) (List.range A.length)
      rw [show (List.range A.length).any (fun i => iAt A i == iAt B s && iAt B i == iAt A s) = true from List.any_eq_true.2 ⟨t, by simpa using ht, by simp [h1.1, h1.2]⟩] at h2
      simpa using h2
    omega
theorem backAt_some {A B : List Int} {s : Nat} (h : ¬ backAt A B s < 0) : ∃ t, t < A.length ∧ backAt A B s = t ∧ backB A B s t = true ∧ ∀ r, r < t → backB A B s r = false := by
  unfold backAt sideAt idx at h ⊢
  split at h
  · rename_i hany
    have hlt := List.findIdx_lt_length_of_exists (List.any_eq_true.1 hany)
    rw [List.length_range] at hlt
    refine ⟨_, hlt, by rw [if_pos hany], ?_, fun r hr => ?_⟩
    · have := List.findIdx_getElem (w := by simpa using hlt) (xs := List.range A.length) (p := fun i => iAt A i == iAt B s && iAt B i == iAt A s)
      simp only [List.getElem_range] at this
      exact this
    · have := List.not_of_lt_findIdx hr
      simp only [List.getElem_range] at this
      simpa [backB] using this
  · exact absurd (by decide) h
theorem first_back {A B : List Int} {s : Nat} (hs : s < A.length) (hne : iAt A s ≠ iAt B s) : firstB A B s = true ↔ (backAt A B s < 0 ∨ (s : Int) < backAt A B s) := by
  constructor
  · intro hf
    by_cases h : backAt A B s < 0
    · exact .inl h
    · right
      obtain ⟨t, h1, h2, h3, h4⟩ := backAt_some h
      rw [h2]
      simp only [firstB, Bool.not_eq_true', List.any_eq_false, List.mem_range, Bool.not_eq_true] at hf
      rcases Nat.lt_trichotomy t s with h5 | h5 | h5
      · rw [hf t h5] at h3; cases h3
      · subst h5
        have := backB_iff.1 h3
        exact absurd this.1 hne
      · omega
  · intro h
    simp only [firstB, Bool.not_eq_true', List.any_eq_false, List.mem_range, Bool.not_eq_true]
    intro t ht
    by_cases h0 : backAt A B s < 0
    · exact backAt_none h0 t (by omega)
    · obtain ⟨t', h1, h2, h3, h4⟩ := backAt_some h0
      rw [h2] at h
      exact h4 t (by omega)
theorem secF_neg {A B F : List Int} {s m : Nat} (hm : A.length = m) (hF : ∀ t, t < m → 0 ≤ iAt F t) : (decide (secF A B F m s < 0)) = decide (backAt A B s < 0) := by
  by_cases h : backAt A B s < 0
  · have : (List.range m).find? (backB A B s) = none := by
      rw [List.find?_eq_none]
      intro t ht
      rw [backAt_none h t (by rw [hm]; simpa using ht)]; decide
    rw [decide_eq_true h]
    simp [secF, this]
  · obtain ⟨t, h1, h2, h3, h4⟩ := backAt_some h
    rw [decide_eq_false h, decide_eq_false]
    unfold secF
    cases hf : (List.range m).find? (backB A B s) with
    | none =>
      rw [List.find?_eq_none] at hf
      exact absurd h3 (by simpa using hf t (by rw [← hm]; simpa using h1))
    | some s' =>
      have := hF s' (by simpa using List.mem_of_find?_eq_some hf)
      simp; omega
end Go.Fl
namespace Go.Proofs.Ytbmahankleijkaa
open Go.RowKit Go.Fl

set_option maxHeartbeats 2000000 in
set_option maxRecDepth 100000 in
theorem l06Edges (b1 b2 c1 c2 m : Nat) (A B : List Int) (hA : A.length = m) (hB : B.length = m) (hm : m ≤ 1073741824) (hne : ∀ t, t < m → iAt A t ≠ iAt B t) (w : World) (h1 : SlI w b1 (b1 + 1) (some ⟨b1, 0, none⟩) A) (h2 : SlI w b2 (b2 + 1) (some ⟨b2, 0, none⟩) B) (z1 : b1 < w.heap.size) (z2 : b2 < w.heap.size) :
    Calls Try.prog 96 #[.slice (some ⟨b1, 0, none⟩) m c1, .slice (some ⟨b2, 0, none⟩) m c2] w fun e w' => ∃ b cap, e = .returned (.slice (some ⟨b, 0, none⟩) (firsts A B m).length cap) ∧ ORow w' 3 1 b cap (firsts A B m).length ((firsts A B m).map fun (s : Nat) => Value.int .i64 (s : Int)) ∧ w.heap.size ≤ b ∧ Below w.heap.size w w' := by
  have H1 := Lib.hid h1
  have H2 := Lib.hid h2
  have HA := Lib.hid hA
  have HB := Lib.hid hB
  have HNE := Lib.hid hne
  clear h1 h2 hA hB hne
  go_enter Try.func96, Try.ntmps96
  go_wp2_with fail
  go_loopw [5, 6] (fun out i wr => ∃ t b cap : Nat, t ≤ m ∧ i = .int .i64 t ∧ out = .slice (some ⟨b, 0, none⟩) (firsts A B t).length cap ∧ Hid (ORow wr 3 1 b cap (firsts A B t).length ((firsts A B t).map fun (s : Nat) => Value.int .i64 (s : Int))) ∧ w.heap.size ≤ b ∧ Hid (Below w.heap.size w wr)) (fun _ i _ => m - (intOf i).toNat)
  case atStart => exact ⟨0, _, _, by omega, rfl, rfl, ORow.new w _ _, Nat.le_refl _, Below.alloc (Below.refl _ _) (Nat.le_refl _) _⟩
  case round =>
    obtain ⟨t, b, cap, ht, rfl, rfl, HR, hbb, HW⟩ := hrel
    by_cases hlt : t < m
    · have S1 := Lib.hid (H1.out.far (Far.below (lo := b1) HW.out (by omega)))
      have S2 := Lib.hid (H2.out.far (Far.below (lo := b2) HW.out (by omega)))
      obtain ⟨_, _, he1, _, _, hc1⟩ := S1.out (by have := HA.out; omega)
      obtain ⟨_, _, he2, _, _, hc2⟩ := S2.out (by have := HB.out; omega)
      cases he1
      cases he2
      have a1 := hc1 t (by have := HA.out; omega)
      have a2 := hc2 t (by have := HB.out; omega)
      rw [Nat.zero_add] at a1 a2
      have k0 : (0 : Int) ≤ (t : Int) := by omega
      have k1 : (t : Int) < (m : Int) := by omega
      have hfl := firsts_len A B t
      have hzz := HW.out.size
      have hA' := HA.out
      have hB' := HB.out
      have hfb := first_back (A := A) (B := B) (s := t) (by omega) (HNE.out t hlt)
      have HFB := Lib.hid hfb
      clear hc1 hc2 hfb
      obtain ⟨d, hd⟩ : ∃ d, d = backAt A B t := ⟨_, rfl⟩
      have HD : Hid (sideAt A B (iAt B t) (iAt A t) = d) := Lib.hid hd.symm
      have HFB : Hid (firstB A B t = true ↔ (d < 0 ∨ (t : Int) < d)) := by rw [hd]; exact HFB
      clear hd
      by_cases hyes : d < 0 ∨ (t : Int) < d
      · have HF := Lib.hid (firsts_yes (HFB.out.2 hyes))
        have HWD := Lib.hid HW.out.drew
        have HRD := Lib.hid (HR.out.far (lo := 0) (hi := wr.heap.size) (w' := wr.drew) (fun _ _ _ => rfl) (Nat.zero_le _) HR.out.lt)
        have hd2 : d < 0 ∨ (¬ d < 0 ∧ (t : Int) < d) := by omega
        clear hyes
        rcases hd2 with hd0 | ⟨hd0, hd1⟩
        all_goals
          go_wp2_with fail
          go_region_held3 (fun w' => w'.cell? ⟨b1, t, none⟩ = some (.int .i64 (iAt A t)) ∧ w'.cell? ⟨b2, t, none⟩ = some (.int .i64 (iAt B t))) (first | go_keep | (refine ⟨?_, ?_⟩ <;> exact keep_cell (by assumption) (by assumption)))
            ((go_at_call 98; refine (l06SideN b1 (b1 + 1) b2 (b2 + 1) m (some ⟨b1, 0, none⟩) (some ⟨b2, 0, none⟩) c1 c2 A B (iAt B t) (iAt A t) (by omega) hA' hB' wr.drew S1.out S2.out).mono ?_; rintro e w3 ⟨rfl, rfl⟩; rw [HD.out]))
          go_wp2_with (at_builtin; refine wpList_app2 rfl _ _ _ rfl 3 (.int .i64 0) 1 8 Try.underlying106 infoI rfl (by decide) _ #[.int .i64 (t : Int)] 3 rfl (by simp [Value.oneCell']) _ b cap _ _ rfl rfl (by simp) HRD.out (by omega) (by decide) ?_; intro b4 cap4 w4 hr4 hg4 hgr4)
          go_roundw
          case rel =>
            refine ⟨t + 1, b4, cap4, by omega, by go_num, by rw [HF.out]; simp, ?_, by simp at hg4; omega, HWD.out.trans (hgr4.below hbb (by simp; omega))⟩
            rw [HF.out]
            have := hr4
            simp only [List.map_append, List.map_cons, List.map_nil, List.length_append, List.length_cons, List.length_nil]
            exact this
          case measure => simp [intOf]; omega
      · have hno : firstB A B t = false := by
          cases h : firstB A B t with
          | false => rfl
          | true => exact absurd (HFB.out.1 h) hyes
        have HF := Lib.hid (firsts_no hno)
        have hd0 : ¬ d < 0 := fun h => hyes (.inl h)
        have hd1 : ¬ (t : Int) < d := fun h => hyes (.inr h)
        have HWD := Lib.hid HW.out.drew
        have HRD := Lib.hid (HR.out.far (lo := 0) (hi := wr.heap.size) (w' := wr.drew) (fun _ _ _ => rfl) (Nat.zero_le _) HR.out.lt)
        clear hyes hno
        go_wp2_with fail
        go_region_held3 (fun w' => w'.cell? ⟨b1, t, none⟩ = some (.int .i64 (iAt A t)) ∧ w'.cell? ⟨b2, t, none⟩ = some (.int .i64 (iAt B t))) (first | go_keep | (refine ⟨?_, ?_⟩ <;> exact keep_cell (by assumption) (by assumption)))
          ((go_at_call 98; refine (l06SideN b1 (b1 + 1) b2 (b2 + 1) m (some ⟨b1, 0, none⟩) (some ⟨b2, 0, none⟩) c1 c2 A B (iAt B t) (iAt A t) (by omega) hA' hB' wr.drew S1.out S2.out).mono ?_; rintro e w3 ⟨rfl, rfl⟩; rw [HD.out]))
        go_wp2_with fail
        go_roundw
        case rel => exact ⟨t + 1, b, cap, by omega, by go_num, by rw [HF.out], by rw [HF.out]; exact HRD, hbb, HWD⟩
        case measure => simp [intOf]; omega
    · have htm : t = m := by omega
      subst htm
      go_wp2_with fail
      go_ret
      exact ⟨b, cap, rfl, HR.out, hbb, HW.out⟩
end Go.Proofs.Ytbmahankleijkaa

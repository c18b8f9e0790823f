/- Contracts: the facets of a corner, the reference's. Contracts: the facets of a corner, the program's; and both functions FacetsAt. Contracts: equal nets, by the law's own functions. -/
import Derived.Test.YtkjljajjjhfklaaNj02
import Derived.Test.YtkjljajjjhfklaaNj03
import Derived.Test.YtkjljajjjhfklaaNj06
import Derived.Deep.QuietTactic
import Derived.BigQuiet
import Derived.Deep.RegionHeld3
namespace Go.Fl
/-- v once for each of the first k numbers that is x -/
def reps (f : List Int) (x v : Int) : Nat → List Int
  | 0 => []
  | k + 1 => reps f x v k ++ (if iAt f k = x then [v] else [])
/-- the first j facets, each as often as it has the corner x -/
def faTo (fs : List (List Int)) (x : Int) : Nat → List Int
  | 0 => []
  | j + 1 => faTo fs x j ++ reps (fAt fs j) x j (fAt fs j).length
theorem reps_len (f : List Int) (x v : Int) : ∀ k, (reps f x v k).length ≤ k
  | 0 => by simp [reps]
  | k + 1 => by
    have := reps_len f x v k
    simp only [reps, List.length_append]
    split <;> simp <;> omega
theorem faTo_len {fs : List (List Int)} (x : Int) (h : ∀ i, i < fs.length → (fAt fs i).length ≤ 1048576) : ∀ j, j ≤ fs.length → (faTo fs x j).length ≤ j * 1048576
  | 0, _ => by simp [faTo]
  | j + 1, hj => by
    have h1 := faTo_len x h j (by omega)
    have h2 := h j (by omega)
    have h3 := reps_len (fAt fs j) x j (fAt fs j).length
    simp only [faTo, List.length_append]; omega
/-- the first j facets and the first k corners of the next -/
def faPre (fs : List (List Int)) (x : Int) (j k : Nat) : List Int := faTo fs x j ++ reps (fAt fs j) x j k
theorem faPre_zero (fs : List (List Int)) (x : Int) (j : Nat) : faPre fs x j 0 = faTo fs x j := by simp [faPre, reps]
theorem faPre_full (fs : List (List Int)) (x : Int) (j : Nat) : faPre fs x j (fAt fs j).length = faTo fs x (j + 1) := rfl
theorem faPre_yes {fs : List (List Int)} {x : Int} {j k : Nat} (h : iAt (fAt fs j) k = x) : faPre fs x j (k + 1) = faPre fs x j k ++ [(j : Int)] := by simp [faPre, reps, h]
theorem faPre_no {fs : List (List Int)} {x : Int} {j k : Nat} (h : ¬ iAt (fAt fs j) k = x) : faPre fs x j (k + 1) = faPre fs x j k := by simp [faPre, reps, h]
theorem faPre_len {fs : List (List Int)} (x : Int) (h : ∀ i, i < fs.length → (fAt fs i).length ≤ 1048576) {j k : Nat} (hj : j < fs.length) (hk : k ≤ (fAt fs j).length) : (faPre fs x j k).length ≤ (j + 1) * 1048576 := by
  have h1 := faTo_len x h j (by omega)
  have h2 := h j hj
  have h3 := reps_len (fAt fs j) x j k
  simp only [faPre, List.length_append]; omega
end Go.Fl
namespace Go.Proofs.Ytkjljajjjhfklaa
open Go.RowKit Go.Fl

end Go.Proofs.Ytkjljajjjhfklaa

namespace Go.Fl
/-- the first j facets that have the corner x -/
noncomputable def faI (fs : List (List Int)) (x : Int) : Nat → List Int
  | 0 => []
  | j + 1 => faI fs x j ++ (if dec (Has (fAt fs j) (fAt fs j).length x) then [(j : Int)] else [])
theorem faI_len (fs : List (List Int)) (x : Int) : ∀ j, (faI fs x j).length ≤ j
  | 0 => by simp [faI]
  | j + 1 => by
    have := faI_len fs x j
    simp only [faI, List.length_append]
    split <;> simp <;> omega
theorem reps_none {f : List Int} {x v : Int} : ∀ k, ¬ Has f k x → reps f x v k = []
  | 0, _ => rfl
  | k + 1, h => by
    have h1 : ¬ iAt f k = x := fun e => h ⟨k, by omega, e⟩
    have h2 : ¬ Has f k x := fun ⟨s, hs, e⟩ => h ⟨s, by omega, e⟩
    simp [reps, h1, reps_none k h2]
theorem reps_once {n : Nat} {f : List Int} {x v : Int} (hg : FGood n f f.length) : ∀ k, k ≤ f.length → Has f k x → reps f x v k = [v]
  | 0, _, h => by obtain ⟨s, hs, _⟩ := h; exact absurd hs (Nat.not_lt_zero _)
  | k + 1, hk, h => by
    by_cases h1 : iAt f k = x
    · have h2 : ¬ Has f k x := fun ⟨s, hs, e⟩ => (hg k (by omega)).2 s hs (e.trans h1.symm)
      simp [reps, h1, reps_none k h2]
    · have h2 : Has f k x := by
        obtain ⟨s, hs, e⟩ := h
        by_cases hsk : s = k
        · subst hsk; exact absurd e h1
        · exact ⟨s, by omega, e⟩
      simp [reps, h1, reps_once hg k (by omega) h2]
/-- where each facet has its corners but once both lists are one -/
theorem faTo_eq {n : Nat} {fs : List (List Int)} (x : Int) (h : ∀ i, i < fs.length → OkF n (fAt fs i)) : ∀ j, j ≤ fs.length → faTo fs x j = faI fs x j
  | 0, _ => rfl
  | j + 1, hj => by
    rw [faTo, faI, faTo_eq x h j (by omega)]
    congr 1
    by_cases hh : Has (fAt fs j) (fAt fs j).length x
    · rw [dec_yes hh, if_pos rfl, reps_once (h j (by omega)).2.2 _ (Nat.le_refl _) hh]
    · rw [dec_no hh, if_neg (by decide), reps_none _ hh]
theorem faI_yes {fs : List (List Int)} {x : Int} {j : Nat} (h : Has (fAt fs j) (fAt fs j).length x) : faI fs x (j + 1) = faI fs x j ++ [(j : Int)] := by rw [faI, dec_yes h, if_pos rfl]
theorem faI_no {fs : List (List Int)} {x : Int} {j : Nat} (h : ¬ Has (fAt fs j) (fAt fs j).length x) : faI fs x (j + 1) = faI fs x j := by rw [faI, dec_no h, if_neg (by decide), List.append_nil]

/-- a slice of numbers that a call made: nil, or in a block of its own -/
structure OwnI (w : World) (lo hi : Nat) (ao : Option Addr) (xs : List Int) : Prop where
  at' : (ao = none ∧ xs = []) ∨ ∃ b, ao = some ⟨b, 0, none⟩ ∧ lo ≤ b ∧ b < hi ∧ Room w b xs.length ∧ SlI w b (b + 1) ao xs
theorem OwnI.reads {w : World} {lo hi : Nat} {ao : Option Addr} {xs : List Int} (h : OwnI w lo hi ao xs) : SlI w lo hi ao xs := by
  rcases h.at' with ⟨rfl, rfl⟩ | ⟨b, rfl, h1, h2, _, h4⟩
  · exact fun h => absurd h (Nat.not_lt_zero _)
  · exact h4.mono (by omega) (by omega)
theorem OwnI.far {w w' : World} {lo hi : Nat} {ao : Option Addr} {xs : List Int} (h : OwnI w lo hi ao xs) (hf : Far lo hi w w') : OwnI w' lo hi ao xs := by
  rcases h.at' with h0 | ⟨b, rfl, h1, h2, h3, h4⟩
  · exact ⟨.inl h0⟩
  · exact ⟨.inr ⟨b, rfl, h1, h2, h3.far hf h1 h2, h4.far (hf.mono h1 (by omega))⟩⟩
theorem OwnI.mono {w : World} {lo hi lo' hi' : Nat} {ao : Option Addr} {xs : List Int} (h : OwnI w lo hi ao xs) (hl : lo' ≤ lo) (hh : hi ≤ hi') : OwnI w lo' hi' ao xs := by
  rcases h.at' with h0 | ⟨b, rfl, h1, h2, h3, h4⟩
  · exact ⟨.inl h0⟩
  · exact ⟨.inr ⟨b, rfl, by omega, by omega, h3, h4⟩⟩
theorem OwnI.nil (w : World) (lo hi : Nat) : OwnI w lo hi none [] := ⟨.inl ⟨rfl, rfl⟩⟩
theorem OwnI.row {w : World} {lo e b cap n : Nat} {xs : List Int} (h : ORow w e 1 b cap n (xs.map (Value.int .i64))) (hn : n = xs.length) (hl : lo ≤ b) : OwnI w lo w.heap.size (some ⟨b, 0, none⟩) xs :=
  ⟨.inr ⟨b, rfl, hl, h.lt, by have := h.room; rw [hn, Nat.mul_one] at this; exact this, h.ints hn⟩⟩
/-- the call from w answers with the numbers xs and with ok -/
def RetI (xs : List Int) (ok : Bool) (w : World) (e : Ending) (w' : World) : Prop :=
  (∃ ao c, e = .returned (.tuple #[.slice ao xs.length c, .bool ok]) ∧ OwnI w' w.heap.size w'.heap.size ao xs) ∧ RowKit.Below w.heap.size w w'
end Go.Fl
namespace Go.Proofs.Ytkjljajjjhfklaa
open Go.RowKit Go.Fl

set_option maxHeartbeats 1000000 in
theorem facetsAtI (lo hi : Nat) (sa fa : Option Addr) (sn sc fc : Nat) (fs : List (List Int)) (x : Int) (hn : fs.length ≤ 1048576) (hsh : ∀ i, i < fs.length → (fAt fs i).length ≤ 1048576) (w : World)
    (hs : SlN w lo hi fa fs) (hh : hi ≤ w.heap.size) :
    Calls Try.prog 59 #[netV sa fa sn sc fs.length fc, .int .i64 x] w fun e w' => ∃ b cap, e = .returned (.slice (some ⟨b, 0, none⟩) (faI fs x fs.length).length cap) ∧
      ORow w' 2 1 b cap (faI fs x fs.length).length ((faI fs x fs.length).map (Value.int .i64)) ∧ w.heap.size ≤ b ∧ Below w.heap.size w w' := by
  have HS := Lib.hid hs
  have HSH := Lib.hid hsh
  clear hs hsh
  unfold netV
  go_enter Try.func59, Try.ntmps59
  go_wp2_with fail
  go_loopw [5, 12] (fun out i wr => ∃ j b cap : Nat, j ≤ fs.length ∧ i = .int .i64 j ∧ out = .slice (some ⟨b, 0, none⟩) (faI fs x j).length cap ∧ Hid (ORow wr 2 1 b cap (faI fs x j).length ((faI fs x j).map (Value.int .i64))) ∧ w.heap.size ≤ b ∧ Hid (Below w.heap.size w wr)) (fun _ i _ => fs.length - (intOf i).toNat)
  case atStart =>
    refine ⟨0, _, _, by omega, rfl, rfl, ?_, ?_, ?_⟩
    · have := ORow.new (w.alloc (.cells #[.slice sa sn sc, .slice fa fs.length fc] 27)) 2 1
      simp only [World.size_alloc] at this
      exact this
    · omega
    · (repeat (first | exact Below.refl _ _ | assumption | refine below_dr ?_ _ | refine Below.alloc ?_ (by first | omega | (simp; done) | (simp; omega)) _ | refine Below.setCell ?_ (by first | omega | (simp; done) | (simp; omega)) _ | refine Below.trans ?_ (Below.mono (by assumption) (by first | omega | (simp; done) | (simp; omega)))))
  case round =>
    obtain ⟨j, b, cap, hj, rfl, rfl, HR, hbb, HW⟩ := hrel
    by_cases hlt : j < fs.length
    · obtain ⟨b1, o1, rfl, _, q1, hc1⟩ := HS.out (by omega)
      obtain ⟨ai, ci, d0, s1⟩ := hc1 j hlt
      have d1 := keep_cell HW.out d0
      have hlk := HSH.out j hlt
      have hfl := faI_len fs x j
      have k0 : (0 : Int) ≤ (j : Int) := by omega
      have k1 : (j : Int) < (fs.length : Int) := by omega
      have hz := HW.out.size
      have HB1 := Lib.hid (HW.out.alloc hz (.cells #[.slice ai (fAt fs j).length ci] 38))
      have S1 := Lib.hid (s1.far (Far.below HB1.out hh))
      have HR1 := Lib.hid (HR.out.far (lo := 0) (hi := wr.heap.size) ((Far.refl _ _ _).alloc (.cells #[.slice ai (fAt fs j).length ci] 38) (Nat.le_refl _)) (Nat.zero_le _) HR.out.lt)
      clear d0 hc1 s1
      by_cases hhas : Has (fAt fs j) (fAt fs j).length x
      · have HD := Lib.hid (dec_yes hhas)
        have HF := Lib.hid (faI_yes hhas)
        clear hhas
        go_wp2_with (first | (go_at_call 68; refine (containsI lo hi _ ai ci (fAt fs j) x hlk (Nat.le_refl _) _ S1.out).mono ?_; rintro e w4 ⟨rfl, rfl⟩; rw [HD.out]) | (at_builtin; refine wpList_app2 rfl _ _ _ rfl 2 (.int .i64 0) 1 8 Try.underlying29 infoInt rfl (by decide) _ #[.int .i64 j] 2 rfl (by simp [Value.oneCell']) _ b cap _ _ rfl rfl (by simp) HR1.out (by omega) (by decide) ?_; intro b4 cap4 w4 hr4 hg4 hgr4))
        go_roundw
        case rel =>
          refine ⟨j + 1, b4, cap4, by omega, by go_num, by rw [HF.out]; simp, ?_, by simp at hg4; omega, HB1.out.trans (hgr4.below hbb (by simp; omega))⟩
          rw [HF.out]
          have := hr4
          simp only [List.map_append, List.map_cons, List.map_nil, List.length_append, List.length_cons, List.length_nil]
          exact this
        case measure => simp [intOf]; omega
      · have HD := Lib.hid (dec_no hhas)
        have HF := Lib.hid (faI_no hhas)
        clear hhas
        go_wp2_with ((go_at_call 68; refine (containsI lo hi _ ai ci (fAt fs j) x hlk (Nat.le_refl _) _ S1.out).mono ?_; rintro e w4 ⟨rfl, rfl⟩; rw [HD.out]))
        go_roundw
        case rel => exact ⟨j + 1, b, cap, by omega, by go_num, by rw [HF.out], by rw [HF.out]; exact HR1, hbb, HB1⟩
        case measure => simp [intOf]; omega
    · have hjn : j = fs.length := by omega
      subst hjn
      go_wp2_with fail
      go_ret
      exact ⟨b, cap, rfl, HR.out, hbb, HW.out⟩

/-- the answer of FacetsAt -/
noncomputable def faOk (ps : List Sp) (fs : List (List Int)) (x : Int) : Bool := dec (OkNet ps fs (colA fs) (colB fs)) && inB x 0 ((ps.length : Int) - 1)
noncomputable def faL (ps : List Sp) (fs : List (List Int)) (x : Int) : List Int := if faOk ps fs x then faI fs x fs.length else []
theorem faL_no {ps : List Sp} {fs : List (List Int)} {x : Int} (h : faOk ps fs x = false) : faL ps fs x = [] := by simp [faL, h]
theorem faL_yes {ps : List Sp} {fs : List (List Int)} {x : Int} (h : faOk ps fs x = true) : faL ps fs x = faI fs x fs.length := by simp [faL, h]
end Go.Proofs.Ytkjljajjjhfklaa

namespace Go.Proofs.Ytkjljajjjhfklaa
open Go.RowKit Go.Fl

end Go.Proofs.Ytkjljajjjhfklaa

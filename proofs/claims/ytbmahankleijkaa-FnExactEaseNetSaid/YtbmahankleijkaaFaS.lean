/- Contracts: the facets of a corner, the reference's. -/
import Derived.Test.YtbmahankleijkaaTo
import Derived.Test.YtbmahankleijkaaRow
namespace Go.Fl
/-- v once for each of the first k numbers that is x -/
def reps (f : List Int) (x v : Int) : Nat → List Int
  | 0 => []
  | k + 1 => reps f x v k ++ (if iAt f k = x then [v] else [])
/-- the first j facets, each as often as it has the corner x -/
def faTo (fs : List (List Int)) (x : Int) : Nat → List Int
  | 0 => []
  | j + 1 => faTo fs x j ++ reps (fAt fs j) x j (fAt fs j).length
theorem reps_len (f : List Int) (x v : Int) : ∀ k, (reps f x v k).length ≤ k
  | 0 => by simp [reps]
  | k + 1 => by
    have := reps_len f x v k
    simp only [reps, List.length_append]
    split <;> simp <;> omega
theorem faTo_len {fs : List (List Int)} (x : Int) (h : ∀ i, i < fs.length → (fAt fs i).length ≤ 1048576) : ∀ j, j ≤ fs.length → (faTo fs x j).length ≤ j * 1048576
  | 0, _ => by simp [faTo]
  | j + 1, hj => by
    have h1 := faTo_len x h j (by omega)
    have h2 := h j (by omega)
    have h3 := reps_len (fAt fs j) x j (fAt fs j).length
    simp only [faTo, List.length_append]; omega
/-- the first j facets and the first k corners of the next -/
def faPre (fs : List (List Int)) (x : Int) (j k : Nat) : List Int := faTo fs x j ++ reps (fAt fs j) x j k
theorem faPre_zero (fs : List (List Int)) (x : Int) (j : Nat) : faPre fs x j 0 = faTo fs x j := by simp [faPre, reps]
theorem faPre_full (fs : List (List Int)) (x : Int) (j : Nat) : faPre fs x j (fAt fs j).length = faTo fs x (j + 1) := rfl
theorem faPre_yes {fs : List (List Int)} {x : Int} {j k : Nat} (h : iAt (fAt fs j) k = x) : faPre fs x j (k + 1) = faPre fs x j k ++ [(j : Int)] := by simp [faPre, reps, h]
theorem faPre_no {fs : List (List Int)} {x : Int} {j k : Nat} (h : ¬ iAt (fAt fs j) k = x) : faPre fs x j (k + 1) = faPre fs x j k := by simp [faPre, reps, h]
theorem faPre_len {fs : List (List Int)} (x : Int) (h : ∀ i, i < fs.length → (fAt fs i).length ≤ 1048576) {j k : Nat} (hj : j < fs.length) (hk : k ≤ (fAt fs j).length) : (faPre fs x j k).length ≤ (j + 1) * 1048576 := by
  have h1 := faTo_len x h j (by omega)
  have h2 := h j hj
  have h3 := reps_len (fAt fs j) x j k
  simp only [faPre, List.length_append]; omega
end Go.Fl
namespace Go.Proofs.Ytbmahankleijkaa
open Go.RowKit Go.Fl

set_option maxHeartbeats 1000000 in
theorem l06FacetsAt (lo hi pb : Nat) (sa fa : Option Addr) (sn sc fc : Nat) (fs : List (List Int)) (x : Int) (hn : fs.length ≤ 1048576) (hsh : ∀ i, i < fs.length → (fAt fs i).length ≤ 1048576) (w : World)
    (p0 : w.cell? ⟨pb, 0, none⟩ = some (.slice sa sn sc)) (p1 : w.cell? ⟨pb, 1, none⟩ = some (.slice fa fs.length fc)) (hs : SlN w lo hi fa fs) (hh : hi ≤ w.heap.size) :
    Calls Try.prog 46 #[.pointer (some ⟨pb, 0, none⟩), .int .i64 x] w fun e w' => ∃ b cap, e = .returned (.slice (some ⟨b, 0, none⟩) (faTo fs x fs.length).length cap) ∧
      ORow w' 2 1 b cap (faTo fs x fs.length).length ((faTo fs x fs.length).map (Value.int .i64)) ∧ w.heap.size ≤ b ∧ Below w.heap.size w w' := by
  have HS := Lib.hid hs
  have HSH := Lib.hid hsh
  have HP0 := Lib.hid p0
  have HP1 := Lib.hid p1
  clear hs hsh p0 p1
  go_enter Try.func46, Try.ntmps46
  go_wp2_with fail
  go_loopw [5, 6] (fun out i wr => ∃ j b cap : Nat, j ≤ fs.length ∧ i = .int .i64 j ∧ out = .slice (some ⟨b, 0, none⟩) (faTo fs x j).length cap ∧ Hid (ORow wr 2 1 b cap (faTo fs x j).length ((faTo fs x j).map (Value.int .i64))) ∧ w.heap.size ≤ b ∧ Hid (Below w.heap.size w wr)) (fun _ i _ => fs.length - (intOf i).toNat)
  case atStart => exact ⟨0, _, _, by omega, rfl, rfl, ORow.new w _ _, Nat.le_refl _, Below.alloc (Below.refl _ _) (Nat.le_refl _) _⟩
  case round =>
    obtain ⟨j, b, cap, hj, rfl, rfl, HR, hbb, HW⟩ := hrel
    have c0 := keep_cell HW.out HP0.out
    have c1 := keep_cell HW.out HP1.out
    by_cases hlt : j < fs.length
    · obtain ⟨b1, o1, rfl, _, q1, hc1⟩ := HS.out (by omega)
      obtain ⟨ai, ci, d0, s1⟩ := hc1 j hlt
      have d1 := keep_cell HW.out d0
      have S1 := Lib.hid s1
      clear d0
      have hlk := HSH.out j hlt
      clear hc1 s1
      have k0 : (0 : Int) ≤ (j : Int) := by omega
      have k1 : (j : Int) < (fs.length : Int) := by omega
      have hfl := faTo_len x HSH.out j (by omega)
      have HZ := Lib.hid HW.out.size
      clear c0 c1
      have c0 := keep_cell HW.out HP0.out
      have c1 := keep_cell HW.out HP1.out
      go_wp2_with fail
      go_loopw [5, 8] (fun out i wq => ∃ k b cap : Nat, k ≤ (fAt fs j).length ∧ i = .int .i64 k ∧ out = .slice (some ⟨b, 0, none⟩) (faPre fs x j k).length cap ∧ Hid (ORow wq 2 1 b cap (faPre fs x j k).length ((faPre fs x j k).map (Value.int .i64))) ∧ w.heap.size ≤ b ∧ Hid (Below w.heap.size w wq)) (fun _ i _ => (fAt fs j).length - (intOf i).toNat)
      case atStart => exact ⟨0, b, cap, by omega, rfl, by rw [faPre_zero], by rw [faPre_zero]; exact HR, hbb, HW⟩
      case round =>
        obtain ⟨k, b2, cap2, hk, rfl, rfl, HR2, hbb2, HW2⟩ := hrel
        clear c0 c1 d1
        by_cases hlt2 : k < (fAt fs j).length
        · obtain ⟨b3, o3, rfl, _, q3, hc3⟩ := S1.out (by omega)
          have e1 := keep_cell HW2.out (hc3 k hlt2)
          clear hc3
          have t0 : (0 : Int) ≤ (k : Int) := by omega
          have t1 : (k : Int) < ((fAt fs j).length : Int) := by omega
          by_cases he : iAt (fAt fs j) k = x
          · go_wp2_with (at_builtin; refine wpList_app rfl _ _ _ rfl 2 (.int .i64 0) 1 8 Try.underlying27 infoInt rfl (by decide) _ #[.int .i64 j] 2 rfl (by simp [Value.oneCell']) b2 cap2 _ _ rfl rfl HR2.out (by have := faPre_len x HSH.out hlt hk; omega) (by decide) ?_; intro b4 cap4 w4 hr4 hg4 hgr4)
            have hz2 := HW2.out.size
            go_roundw
            case rel =>
              refine ⟨k + 1, b4, cap4, by omega, by go_num, by rw [faPre_yes he]; simp, ?_, by omega, HW2.out.trans (hgr4.below hbb2 hz2)⟩
              rw [faPre_yes he]
              have := hr4
              simp only [List.map_append, List.map_cons, List.map_nil, List.length_append, List.length_cons, List.length_nil]
              exact this
            case measure => simp [intOf]; omega
          · go_wp2_with fail
            go_roundw
            case rel =>
              refine ⟨k + 1, b2, cap2, by omega, by go_num, ?_, ?_, hbb2, HW2⟩
              · rw [faPre_no he]
              · rw [faPre_no he]; exact HR2
            case measure => simp [intOf]; omega
        · have hkn : k = (fAt fs j).length := by omega
          subst hkn
          go_wp2_with fail
          go_roundw
          case rel => exact ⟨j + 1, b2, cap2, by omega, by go_num, rfl, HR2, hbb2, HW2⟩
          case measure => simp [intOf]; omega
    · go_wp2_with fail
      go_ret
      have hjn : j = fs.length := by omega
      subst hjn
      exact ⟨b, cap, rfl, HR.out, hbb, HW.out⟩
end Go.Proofs.Ytbmahankleijkaa

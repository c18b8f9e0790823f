/- Dashes: IsPath, the closures of DashPath, what is asked of all dashes. -/
import Derived.Test.YtkbikfifnaihlaaDsF
namespace Go.Proofs.Ytkbikfifnaihlaa
open Go.RowKit Go.Fl

theorem isFiniteN {x : Nat} (h : isN .f32 x = true) (w : World) : Calls Try.prog 30 #[.float .f32 x] w fun e w' => e = .returned (.bool true) ∧ ∃ n, w' = w.drewN n := by
  have HF := Lib.hid (finN h)
  refine (implIsFinite x w).mono ?_
  rintro e w' ⟨rfl, hw⟩
  rw [HF.out]
  exact ⟨rfl, hw⟩
theorem isPathN {on off : Rat} (bS n c : Nat) (xs : List Cx) (C : Ctx xs on off) (hn : xs.length = n) (hx : ∀ z, z ∈ xs → nN z) (w : World) (hb : bS < w.heap.size) (hc : ∀ i, i < n → w.cell? ⟨bS, i, none⟩ = some (cV (cAt xs i))) :
    Calls Try.prog 36 #[.slice (some ⟨bS, 0, none⟩) n c] w fun e w' => e = .returned (.bool true) ∧ Below w.heap.size w w' := by
  have n2 : 2 ≤ n := by rw [← hn]; exact C.n1
  have n7 : n ≤ 7 := by rw [← hn]; exact C.n2
  have n2' : (2 : Int) ≤ (n : Int) := by omega
  have n7' : (n : Int) ≤ 7 := by omega
  have hall : xs.all okPt = true := List.all_eq_true.2 fun z hz => okN (hx z hz)
  have hsl : ∀ w' : World, w'.heap[bS]? = w.heap[bS]? → SlC w' bS (bS + 1) (some ⟨bS, 0, none⟩) xs := fun w' hw _ => ⟨bS, rfl, Nat.le_refl _, Nat.lt_succ_self _, fun i hi => (World.cell?_of_block (w := w) (a := ⟨bS, i, none⟩) hw).trans (hc i (by rw [← hn]; exact hi))⟩
  have hap := arePoints bS (bS + 1) (some ⟨bS, 0, none⟩) c xs (by omega) w (hsl w rfl)
  rw [hall, hn] at hap
  have HAP := Lib.hid hap
  have HL := Lib.hid (fun q => longsOfN bS n c xs C hn (w.drewN q) hb hc)
  have HP := Lib.hid (fun i (hi : i < n - 1) => (by
    have hs := (C.seg i (by omega)).len
    rw [lensL_at hi]
    exact ⟨hs.ln.num, by have := hs.lo; grind⟩ : isN .f32 ((lensL xs (n - 1)).getD i 0) = true ∧ 0 < R .f32 ((lensL xs (n - 1)).getD i 0)))
  obtain ⟨m, hm⟩ : ∃ m, m = n - 1 := ⟨_, rfl⟩
  rw [← hm] at HL HP
  have HM := Lib.hid hm
  clear hm hap hall hsl hc hx C hn
  go_enter Try.func36, Try.ntmps36
  go_wp2_with fail
  refine HAP.out.mono ?_
  rintro e w1 ⟨rfl, q, rfl⟩
  go_wp2_with fail
  refine (HL.out q).mono ?_
  rintro e w2 ⟨⟨g, cap, rfl, hf⟩, hb2⟩
  have HF := Lib.hid hf
  have HB2 := Lib.hid (show Below w.heap.size w w2 from (below_dr (Below.refl _ _) q).trans hb2)
  clear hf hb2
  go_wp2_with fail
  refine (containsNo g m cap _ (lensL_len xs m) (by have := HM.out; omega) HP.out w2 HF.out).mono ?_
  rintro e w2 ⟨rfl, rfl⟩
  go_wp2_with fail
  go_ret
  exact ⟨rfl, HB2.out⟩
end Go.Proofs.Ytkbikfifnaihlaa

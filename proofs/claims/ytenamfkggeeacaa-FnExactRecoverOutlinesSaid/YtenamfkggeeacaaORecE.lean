/- Lists of outlines: equal, marked, held, by the law's own functions. -/
import Derived.Test.YtenamfkggeeacaaORecD
import Derived.Test.YtenamfkggeeacaaOMt
namespace Go.Fl
open Go.RowKit
/-- how many marks the first j outlines take -/
def sumO (os : List Ol) : Nat → Nat
  | 0 => 0
  | j + 1 => sumO os j + (1 + sumL (olAt os j).2 (olAt os j).2.length)
theorem sumO_mono (os : List Ol) {i j : Nat} (h : i ≤ j) : sumO os i ≤ sumO os j := by
  induction j with
  | zero => have : i = 0 := by omega
            subst this; exact Nat.le_refl _
  | succ j ih =>
    rcases Nat.lt_or_ge i (j + 1) with h1 | h1
    · exact Nat.le_trans (ih (by omega)) (Nat.le_add_right _ _)
    · have : i = j + 1 := by omega
      subst this; exact Nat.le_refl _
theorem sumO_le {os : List Ol} (h : ∀ o, o ∈ os → Fits o.2) : ∀ j, j ≤ os.length → sumO os j ≤ 257 * j
  | 0, _ => Nat.zero_le _
  | j + 1, hj => by
    have h1 := sumO_le h j (by omega)
    have h2 := (h _ (olAt_mem (show j < os.length by omega))).2.1
    show sumO os j + (1 + sumL (olAt os j).2 (olAt os j).2.length) ≤ 257 * (j + 1)
    omega
/-- the marks lie in the row and in its loops -/
def MkO (w : World) (lo hi b k : Nat) (os : List Ol) : Prop := lo ≤ b ∧ b < hi ∧ ∀ i, i < os.length → ∃ ai ci, w.cell? ⟨b, i * 2, none⟩ = some (.string (mtx ((k + sumO os i : Nat) : Int))) ∧ w.cell? ⟨b, i * 2 + 1, none⟩ = some (.slice ai (olAt os i).2.length ci) ∧ SlL w lo hi ai (mLs (k + sumO os i + 1) (olAt os i).2)
theorem MkO.far {w w' : World} {lo hi b k : Nat} {os : List Ol} (h : MkO w lo hi b k os) (hf : Far lo hi w w') : MkO w' lo hi b k os := by
  obtain ⟨h1, h2, h3⟩ := h
  refine ⟨h1, h2, fun i hi' => ?_⟩
  obtain ⟨ai, ci, c1, c2, c3⟩ := h3 i hi'
  exact ⟨ai, ci, (hf.cell h1 h2).trans c1, (hf.cell h1 h2).trans c2, c3.far hf⟩
end Go.Fl
namespace Go.Proofs.Ytenamfkggeeacaa
open Go.RowKit Go.Fl

set_option maxHeartbeats 1000000 in
theorem eqOlS (lo hi lo' hi' a b : Nat) (ca cb : Nat) (os : List Ol) (hn : os.length ≤ 1048576) (hok : ∀ o, o ∈ os → Fits o.2) (w : World) (ha : SlO w lo hi a os) (hb : SlO w lo' hi' b os) (h1 : hi ≤ w.heap.size) (h2 : hi' ≤ w.heap.size) :
    Calls Try.prog 12 #[.slice (some ⟨a, 0, none⟩) os.length ca, .slice (some ⟨b, 0, none⟩) os.length cb] w fun e w' => e = .returned (.bool true) ∧ Below w.heap.size w w' := by
  have HA := Lib.hid ha
  have HB := Lib.hid hb
  have HF := Lib.hid hok
  clear ha hb hok
  go_enter Try.func12, Try.ntmps12
  go_wp2_with fail
  go_loopw [5] (fun i wr => ∃ k : Nat, k ≤ os.length ∧ i = .int .i64 k ∧ Hid (Below w.heap.size w wr)) (fun i _ => os.length - (intOf i).toNat)
  case atStart => exact ⟨0, by omega, rfl, Below.refl _ _⟩
  case round =>
    obtain ⟨k, hk, rfl, HW⟩ := hrel
    by_cases hlt : k < os.length
    · obtain ⟨_, _, hc1⟩ := HA.out.far (Far.below HW.out h1)
      obtain ⟨_, _, hc2⟩ := HB.out.far (Far.below HW.out h2)
      obtain ⟨a1, d1, c1, c1', s1⟩ := hc1 k hlt
      obtain ⟨a2, d2, c2, c2', s2⟩ := hc2 k hlt
      have S1 := Lib.hid s1
      have S2 := Lib.hid s2
      have hfk := HF.out _ (olAt_mem hlt)
      have hlk : (olAt os k).2.length ≤ 1048576 := by have := hfk.1; omega
      have HK := Lib.hid hfk.2.2
      have z1 := HW.out.size
      clear hc1 hc2 s1 s2 hfk
      have k0 : (0 : Int) ≤ (k : Int) := by omega
      have k1 : (k : Int) < (os.length : Int) := by omega
      go_wp2_with fail
      go_region_held3 (fun w' => w'.cell? ⟨a, k * 2, none⟩ = some (.string (olAt os k).1) ∧ w'.cell? ⟨a, k * 2 + 1, none⟩ = some (.slice a1 (olAt os k).2.length d1) ∧ w'.cell? ⟨b, k * 2, none⟩ = some (.string (olAt os k).1) ∧ w'.cell? ⟨b, k * 2 + 1, none⟩ = some (.slice a2 (olAt os k).2.length d2)) (first | go_keep | (refine ⟨?_, ?_, ?_, ?_⟩ <;> exact keep_cell (by assumption) (by assumption)))
        ((go_at_call 7; refine (eqOl lo hi lo' hi' a1 a2 d1 d2 (olAt os k).1 (olAt os k).2 hlk HK.out wr.drew S1.out S2.out (by simp; omega) (by simp; omega)).mono ?_; rintro e w3 ⟨rfl, hb3⟩))
      have HW3 := HW.out.drew.trans (hb3.mono HW.out.size)
      clear hb3 HW
      go_wp2_with fail
      go_roundw
      case rel => exact ⟨k + 1, by omega, by go_num, HW3⟩
      case measure => simp [intOf]; omega
    · go_wp2_with fail
      go_ret
      exact ⟨rfl, HW.out⟩
end Go.Proofs.Ytenamfkggeeacaa

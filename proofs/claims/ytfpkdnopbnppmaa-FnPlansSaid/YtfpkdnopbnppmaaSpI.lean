/- SpeedPlan, the program's: what it returns. -/
import Derived.Test.YtfpkdnopbnppmaaSpR
namespace Go.Proofs.Ytfpkdnopbnppmaa
open Go.RowKit Go.Fl

theorem all_can (bs : List Nat) : (bs.all fun x => above (can .f32 x)) = (bs.map (can .f32)).all above := by simp [List.all_map, Function.comp_def]
theorem all_canF (bs : List Nat) : (bs.all fun x => fin (can .f32 x)) = (bs.map (can .f32)).all fin := by simp [List.all_map, Function.comp_def]
theorem RdF.slF {w : World} {lo hi : Nat} {a : Option Addr} {bs : List Nat} {n ca : Nat} (h : RdF w lo hi a bs) (hn : n = bs.length) (h1 : 1 ≤ n) (h2 : n ≤ 64) : SlF w (.slice a n ca) bs := by
  subst hn
  obtain ⟨b, off, rfl, _, _, hc⟩ := h (by omega)
  exact .inr ⟨b, off, ca, rfl, by omega, hc⟩
set_option maxHeartbeats 1000000 in
set_option maxRecDepth 100000 in
theorem implSpeedNo (lo hi : Nat) (a : Option Addr) (bs : List Nat) (ca mb rb : Nat) (hn : bs.length ≤ 1048576) (w : World) (hr : RdF w lo hi a bs) (hh : hi ≤ w.heap.size)
    (hno : ¬ (1 ≤ bs.length ∧ bs.length ≤ 64 ∧ (bs.map (can .f32)).all above = true ∧ above (can .f32 mb) = true ∧ above (can .f32 rb) = true)) :
    Calls Try.prog 6 #[.slice a bs.length ca, .float .f32 mb, .float .f32 rb] w fun e w' => e = .returned (.tuple #[.slice none 0 0, .float .f32 0, .bool false]) ∧ Below w.heap.size w w' := by
  have HR := Lib.hid hr
  obtain ⟨n, hnn⟩ : ∃ n, n = bs.length := ⟨_, rfl⟩
  rw [← hnn] at hn ⊢
  have HN := Lib.hid hnn
  have HNO := Lib.hid hno
  clear hr hnn hno
  by_cases h1 : 1 ≤ n
  · by_cases h64 : n ≤ 64
    · have hi1 : ¬ (n : Int) < 1 := by omega
      have hi2 : ¬ (64 : Int) < (n : Int) := by omega
      have HS1 := Lib.hid (fun (v : Value) (T : TypeId) => RdF.slF (ca := ca) (HR.out.far (w' := w.alloc (.cells #[v] T)) (Far.below (Below.alloc (Below.refl _ _) (Nat.le_refl _) _) hh)) HN.out h1 h64)
      have hall := all_can bs
      cases hA : (bs.map (can .f32)).all above
      · rw [hA] at hall
        have HALL := Lib.hid hall
        clear hall
        go_enter Try.func6, Try.ntmps6
        go_wp2_with fail
        refine (areMore bs _ _ (HS1.out _ _)).mono ?_
        rintro e w' ⟨rfl, n2, rfl⟩
        rw [HALL.out]
        go_wp2_with fail
        go_ret3
        exact ⟨rfl, by (repeat (first | exact Below.refl _ _ | assumption | refine below_dr ?_ _ | refine Below.alloc ?_ (by first | omega | (simp; done) | (simp; omega)) _ | refine Below.setCell ?_ (by first | omega | (simp; done) | (simp; omega)) _ | refine Below.trans ?_ (Below.mono (by assumption) (by first | omega | (simp; done) | (simp; omega)))))⟩
      · have hA2 := HNO.out
        rw [hA, ← HN.out] at hA2
        rw [hA] at hall
        have h2 : ([mb, rb].all fun x => above (can .f32 x)) = false := by
          cases hq : ([mb, rb].all fun x => above (can .f32 x))
          · rfl
          · simp only [List.all_cons, List.all_nil, Bool.and_true, Bool.and_eq_true] at hq
            exact absurd ⟨h1, h64, rfl, hq.1, hq.2⟩ hA2
        have HALL := Lib.hid hall
        have H2 := Lib.hid h2
        clear hall hA2 h2
        go_enter Try.func6, Try.ntmps6
        go_wp2_with fail
        refine (areMore bs _ _ (HS1.out _ _)).mono ?_
        rintro e w' ⟨rfl, n2, rfl⟩
        rw [HALL.out]
        go_wp2_with fail
        refine (areMore [mb, rb] _ _ ?_).mono ?_
        · exact slF_new _ [mb, rb] _ _ _ (by simp) (by simp) _ rfl rfl
        rintro e w' ⟨rfl, n3, rfl⟩
        rw [H2.out]
        go_wp2_with fail
        go_ret3
        exact ⟨rfl, by (repeat (first | exact Below.refl _ _ | assumption | refine below_dr ?_ _ | refine Below.alloc ?_ (by first | omega | (simp; done) | (simp; omega)) _ | refine Below.setCell ?_ (by first | omega | (simp; done) | (simp; omega)) _ | refine Below.trans ?_ (Below.mono (by assumption) (by first | omega | (simp; done) | (simp; omega)))))⟩
    · have hi1 : ¬ (n : Int) < 1 := by omega
      have hi2 : (64 : Int) < (n : Int) := by omega
      go_enter Try.func6, Try.ntmps6
      go_wp2_with fail
      go_ret3
      exact ⟨rfl, by (repeat (first | exact Below.refl _ _ | assumption | refine below_dr ?_ _ | refine Below.alloc ?_ (by first | omega | (simp; done) | (simp; omega)) _ | refine Below.setCell ?_ (by first | omega | (simp; done) | (simp; omega)) _ | refine Below.trans ?_ (Below.mono (by assumption) (by first | omega | (simp; done) | (simp; omega)))))⟩
  · have hi1 : (n : Int) < 1 := by omega
    go_enter Try.func6, Try.ntmps6
    go_wp2_with fail
    go_ret3
    exact ⟨rfl, by (repeat (first | exact Below.refl _ _ | assumption | refine below_dr ?_ _ | refine Below.alloc ?_ (by first | omega | (simp; done) | (simp; omega)) _ | refine Below.setCell ?_ (by first | omega | (simp; done) | (simp; omega)) _ | refine Below.trans ?_ (Below.mono (by assumption) (by first | omega | (simp; done) | (simp; omega)))))⟩
end Go.Proofs.Ytfpkdnopbnppmaa

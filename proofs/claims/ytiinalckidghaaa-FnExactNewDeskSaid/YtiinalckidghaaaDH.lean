/- Whether marks on curves, splines and sheets are held, by the law's own functions. -/
import Derived.Test.YtiinalckidghaaaDM
namespace Go.Proofs.Ytiinalckidghaaa
open Go.RowKit Go.Fl
set_option maxHeartbeats 1000000 in
theorem heldCur (g h n c1 m c2 k : Nat) (hk : k + n < 2100) (hm : m ≤ 1048576) (w : World) (hr : SlC w g (g + 1) (some ⟨g, 0, none⟩) (mL k n)) (hs : SlK w h (h + 1) (some ⟨h, 0, none⟩) m ((k + n : Nat) : Int)) (hg : g < w.heap.size) (hh : h < w.heap.size) :
    Calls Try.prog 23 #[.agg #[.slice (some ⟨g, 0, none⟩) n c1, .slice (some ⟨h, 0, none⟩) m c2], .int .i64 (k : Nat)] w fun e w' => e = .returned (.int .i64 (((k + n : Nat) : Int) + m)) ∧ Below w.heap.size w w' := by
  have hbA : Below w.heap.size w (w.alloc (.cells #[.slice (some ⟨g, 0, none⟩) n c1, .slice (some ⟨h, 0, none⟩) m c2] 25)) := Below.alloc (Below.refl _ _) (Nat.le_refl _) _
  have HR := Lib.hid (hr.far (Far.below hbA (by omega)))
  have HS := Lib.hid (hs.far (Far.below hbA (by omega)))
  have HBA := Lib.hid hbA
  have k0 : ¬ ((k + n : Nat) : Int) < 0 := by omega
  have k1 : ¬ ((k + n : Nat) : Int) + (m : Int) < 0 := by omega
  obtain ⟨K, hK⟩ : ∃ K, K = k + n := ⟨_, rfl⟩
  rw [← hK] at HS k0 k1 ⊢
  have HH := Lib.hid (heldC1 g (g + 1) (some ⟨g, 0, none⟩) n c1 k hk _ HR.out)
  rw [← hK] at HH
  have hK2 : K < 2100 := by omega
  clear hr hs hbA hK
  go_enter Try.func23, Try.ntmps23
  go_wp2_with (first
    | (go_at_call 26; refine HH.out.mono ?_; rintro e w1 ⟨rfl, rfl⟩)
    | (go_at_call 40; refine (heldF h (h + 1) (some ⟨h, 0, none⟩) m c2 (K : Int) hm (by omega) (by omega) _ HS.out).mono ?_; rintro e w2 ⟨rfl, q, rfl⟩))
  go_ret
  exact ⟨rfl, by have := HBA.out; (repeat (first | exact Below.refl _ _ | assumption | refine below_dr ?_ _ | refine Below.alloc ?_ (by first | omega | (simp; done) | (simp; omega)) _ | refine Below.setCell ?_ (by first | omega | (simp; done) | (simp; omega)) _ | refine Below.trans ?_ (Below.mono (by assumption) (by first | omega | (simp; done) | (simp; omega)))))⟩
set_option maxHeartbeats 1000000 in
theorem heldSpn (d : Int) (g h n c1 m c2 k : Nat) (hk : k + n + m < 2100) (w : World) (hr : SlK w g (g + 1) (some ⟨g, 0, none⟩) n (k : Int)) (hs : SlC w h (h + 1) (some ⟨h, 0, none⟩) (mL (k + n) m)) (hg : g < w.heap.size) (hh : h < w.heap.size) :
    Calls Try.prog 24 #[.agg #[.int .i64 d, .slice (some ⟨g, 0, none⟩) n c1, .slice (some ⟨h, 0, none⟩) m c2], .int .i64 (k : Nat)] w fun e w' => e = .returned (.int .i64 (((k + n) + m : Nat) : Int)) ∧ Below w.heap.size w w' := by
  have hbA : Below w.heap.size w (w.alloc (.cells #[.int .i64 d, .slice (some ⟨g, 0, none⟩) n c1, .slice (some ⟨h, 0, none⟩) m c2] 27)) := Below.alloc (Below.refl _ _) (Nat.le_refl _) _
  have HR := Lib.hid (hr.far (Far.below hbA (by omega)))
  have HS := Lib.hid (hs.far (Far.below hbA (by omega)))
  have HBA := Lib.hid hbA
  have k0 : ¬ ((k + n : Nat) : Int) < 0 := by omega
  have k1 : ¬ ((k + n + m : Nat) : Int) < 0 := by omega
  have hF := heldF g (g + 1) (some ⟨g, 0, none⟩) n c1 (k : Int) (by omega) (by omega) (by omega) _ HR.out
  rw [show (k : Int) + (n : Int) = ((k + n : Nat) : Int) by omega] at hF
  have HF := Lib.hid hF
  obtain ⟨K, hK⟩ : ∃ K, K = k + n := ⟨_, rfl⟩
  rw [← hK] at HS k0 k1 HF ⊢
  have hK2 : K + m < 2100 := by omega
  clear hr hs hbA hK hF
  go_enter Try.func24, Try.ntmps24
  go_wp2_with (first
    | (go_at_call 40; refine HF.out.mono ?_; rintro e w2 ⟨rfl, q, rfl⟩)
    | (go_at_call 26; refine (heldC1 h (h + 1) (some ⟨h, 0, none⟩) m c2 K hK2 _ (HS.out.far (Far.drewN (Far.refl _ _ _) _))).mono ?_; rintro e w1 ⟨rfl, rfl⟩))
  go_ret
  exact ⟨rfl, by have := HBA.out; (repeat (first | exact Below.refl _ _ | assumption | refine below_dr ?_ _ | refine Below.alloc ?_ (by first | omega | (simp; done) | (simp; omega)) _ | refine Below.setCell ?_ (by first | omega | (simp; done) | (simp; omega)) _ | refine Below.trans ?_ (Below.mono (by assumption) (by first | omega | (simp; done) | (simp; omega)))))⟩
set_option maxHeartbeats 1000000 in
theorem heldSht (x y : Int) (g n c1 : Nat) (k : Int) (hn : n ≤ 1048576) (h0 : 0 ≤ k) (h1 : k ≤ 1152921504606846976) (w : World) (hr : SlM w g (g + 1) (some ⟨g, 0, none⟩) n k) (hg : g < w.heap.size) :
    Calls Try.prog 25 #[.agg #[.int .i64 x, .int .i64 y, .slice (some ⟨g, 0, none⟩) n c1], .int .i64 k] w fun e w' => e = .returned (.int .i64 (k + n * 3)) ∧ Below w.heap.size w w' := by
  have hbA : Below w.heap.size w (w.alloc (.cells #[.int .i64 x, .int .i64 y, .slice (some ⟨g, 0, none⟩) n c1] 30)) := Below.alloc (Below.refl _ _) (Nat.le_refl _) _
  have HR := Lib.hid (hr.far (Far.below hbA (by omega)))
  have HBA := Lib.hid hbA
  have k0 : ¬ k + (n : Int) * 3 < 0 := by omega
  clear hr hbA
  go_enter Try.func25, Try.ntmps25
  go_wp2_with (go_at_call 41; refine (heldSpotS g (g + 1) (some ⟨g, 0, none⟩) n c1 k hn h0 h1 _ HR.out).mono ?_; rintro e w2 ⟨rfl, q, rfl⟩)
  go_ret
  exact ⟨rfl, by have := HBA.out; (repeat (first | exact Below.refl _ _ | assumption | refine below_dr ?_ _ | refine Below.alloc ?_ (by first | omega | (simp; done) | (simp; omega)) _ | refine Below.setCell ?_ (by first | omega | (simp; done) | (simp; omega)) _ | refine Below.trans ?_ (Below.mono (by assumption) (by first | omega | (simp; done) | (simp; omega)))))⟩
end Go.Proofs.Ytiinalckidghaaa

/- PROVED: FnExactSpeedPlanSaid: for all pieces and numbers the program's SpeedPlan and the reference's return the same, in memory of its own. No condition. -/
import Derived.Test.YtbmgjohkgcfodaaRows
import Derived.Test.YtbmgjohkgcfodaaSpL
import Derived.Test.YtbmgjohkgcfodaaOpen
import Derived.ChangeSlices
import Derived.Deep.Slices
namespace Go.Proofs.Ytbmgjohkgcfodaa
open Go.ChangeShapes Go.WideShapes Go.ChangeAt Go.RowKit Go.Joins Go.Fl Go.Deep

set_option maxRecDepth 100000 in
theorem openFl {H : Type} {enc : TypeId × Value → H} {w : World} {spare : Nat → Bool} {held : Bool} {r : Reach} {b0 : Nat} {v : Value} {d : DataW H} {p : List MemPlace} (hv : Value.okWide Try.prog w r b0 22 v) (h : DataW.Trod enc Try.prog w 0 spare held 22 v d p) :
    ∃ (ao : Option Addr) (n c : Nat), v = .slice ao n c ∧ ∃ bs : List Nat, bs.length = n ∧ RdF w 0 w.heap.size ao bs := by
  obtain ⟨a0, l0, c0, rfl⟩ := okWide_slice Try.underlying22 hv
  obtain ⟨fuel, hf⟩ := h
  rcases open_slice1 Try.underlying22 (by kernel_rfl) hf with ⟨h1, _⟩ | ⟨a, len, cap, m, n, V, D, Pl, h1, _, hlc, hm, hmm, _, hx⟩
  · have : Value.slice a0 l0 c0 = .slice none 0 0 := by simpa [Value.cells] using h1
    rw [this]
    exact ⟨none, 0, 0, rfl, [], rfl, fun h => absurd h (Nat.not_lt_zero _)⟩
  · have : Value.slice a0 l0 c0 = .slice (some a) len cap := by simpa [Value.cells] using h1
    rw [this]
    have hle : len ≤ m := by rw [hmm]; split <;> omega
    refine ⟨some a, len, cap, rfl, (List.range len).map fun i => bitOf (some (V i)), by simp, fun hp => ?_⟩
    simp only [List.length_map, List.length_range] at hp
    have h0 := (hx 0 (by omega)).1
    obtain ⟨ab, ao, spot⟩ := a
    have hspot : spot = none := by simpa [Addr.add] using World.cell?_spot h0
    subst hspot
    refine ⟨ab, ao, rfl, Nat.zero_le _, World.block_lt_of_cell? w ⟨ab, ao, none⟩ (by simpa [Addr.add] using h0), fun i hi => ?_⟩
    simp only [List.length_map, List.length_range] at hi
    obtain ⟨hc, ht⟩ := hx i (by omega)
    obtain ⟨x, hxv, _⟩ := trod_float Try.underlying23 ht
    rw [Addr.add_lit] at hc
    rw [hc, hxv]
    simp [nF, hi, hxv, bitOf]

set_option maxRecDepth 100000 in
theorem speedPlanLifted (os : Os) (started : os.Started) (H : Type) (enc : TypeId × Value → H) :
    ReturnsInHanded {} Try.checked os 3 .any (Rows.fnExactSpeedPlanSpec.pre6 enc Try.prog Try.f3 Rows.fnExactSpeedPlanRow.domain false) (Rows.fnExactSpeedPlanSpec.post enc Try.prog Try.f3 false true false false) := by
  refine returnsInHanded_of_change (C := Try.checked) own started (by kernel_rfl) Try.func3
    (ChangeSpec.witness6 (enc := enc) (C := Try.checked) false ⟨#[], #[.slice none 0 0, .float .f32 0, .float .f32 0], []⟩ 8 (by kernel_rfl) (by kernel_rfl) (by kernel_rfl) (by kernel_rfl)) ?_
  intro W base args ds gs before hval0 hW hcnd _
  have hval : ∀ (j : Nat) t v, Try.f3.params[j]? = some t → args[j]? = some v → Value.okWide Try.prog W .any base t v := hval0
  have hW' := hW
  obtain ⟨p, q, hA0, hV, rfl, _, _⟩ := hW
  have hA : DataW.TrodAll enc Try.prog W 0 (fun _ => true) true Try.f3.params.toList args.toList ds p := hA0
  rw [Try.params3] at hA hval
  obtain ⟨v0, v1, v2, d0, d1, d2, p0, p1, p2, rfl, rfl, rfl, h0, h1, h2⟩ := trodAll_three hA
  obtain ⟨rfl, rfl⟩ := trodVars_none hV
  have lt0 : ∀ x ∈ p0, x.block < W.heap.size := by obtain ⟨m, hm⟩ := h0; exact DataW.trod_lt m _ _ _ hm
  have lt1 : ∀ x ∈ p1, x.block < W.heap.size := by obtain ⟨m, hm⟩ := h1; exact DataW.trod_lt m _ _ _ hm
  have lt2 : ∀ x ∈ p2, x.block < W.heap.size := by obtain ⟨m, hm⟩ := h2; exact DataW.trod_lt m _ _ _ hm
  obtain ⟨a, n, ca, rfl, hbs⟩ := openFl (hval 0 22 v0 rfl rfl) h0
  obtain ⟨mb, rfl⟩ := okWide_float Try.underlying23 (hval 1 23 v1 rfl rfl)
  obtain ⟨rb, rfl⟩ := okWide_float Try.underlying23 (hval 2 23 v2 rfl rfl)
  clear hA0 hval0
  refine (fnSpeed a n ca mb rb W hbs).mono fun e W' ⟨he, bel⟩ => ?_
  subst he
  exact ⟨_, rfl, _, _, _, [], _, [], hW', trodAll_mk1 (shut_bool Try.underlying4 _), trodAll_mk3 (Below.trod laidOut (by kernel_rfl) (of_decide_eq_true (by kernel_rfl)) h0 bel lt0) (Below.trod laidOut (by kernel_rfl) (of_decide_eq_true (by kernel_rfl)) h1 bel lt1) (Below.trod laidOut (by kernel_rfl) (of_decide_eq_true (by kernel_rfl)) h2 bel lt2), rfl, bel.frame _, fun h => by cases h⟩

theorem speedPlan_holds : Rows.FnExactSpeedPlanSaid :=
  OpenClaim.holds_of_wide 3 Try.f3 rfl rfl rfl rfl rfl rfl rfl ⟨rfl, rfl, rfl, rfl, rfl⟩ rfl rfl rfl rfl rfl (by kernel_rfl) Try.func3 (by kernel_rfl)
    (of_decide_eq_true (by kernel_rfl)) (by unfold Func.isWrapper; first | (rw [if_pos (by decide +kernel)]; kernel_rfl) | (rw [if_neg (by decide +kernel)]; exact ⟨rfl, rfl⟩))
    (fun os started H enc _ => speedPlanLifted os started H enc)
#print axioms speedPlan_holds
end Go.Proofs.Ytbmgjohkgcfodaa

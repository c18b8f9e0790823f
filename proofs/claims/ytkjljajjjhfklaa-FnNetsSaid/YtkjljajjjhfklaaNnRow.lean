/- PROVED: FnNetsSaid: for all bytes the law FnNets returns true, and the arguments read as they did. No condition. -/
import Derived.Test.YtkjljajjjhfklaaRows
import Derived.Test.YtkjljajjjhfklaaNnLw
import Derived.ProofKit
import Derived.OpenShut
import Derived.ChangeOld
import Derived.ChangeSlices
import Derived.Lib.SmallJoins
import Derived.Deep.Slices
namespace Go.Proofs.Ytkjljajjjhfklaa
open Go.ChangeShapes Go.WideShapes Go.ChangeAt Go.RowKit Go.Joins Go.Fl Go.Deep

theorem ownC : ownKnob Try.prog.godebug = none := by kernel_rfl
theorem laidOutC : laidOutB Try.prog = true := by kernel_rfl

set_option maxRecDepth 100000 in
theorem openBytes {H : Type} {enc : TypeId × Value → H} {w : World} {spare : Nat → Bool} {held : Bool} {r : Reach} {b0 : Nat} {v : Value} {d : DataW H} {p : List MemPlace} (hv : Value.okWide Try.prog w r b0 22 v) (h : DataW.Trod enc Try.prog w 0 spare held 22 v d p) :
    ∃ (ao : Option Addr) (n c : Nat), v = .slice ao n c ∧ CodeAt w w.heap.size ao n := by
  obtain ⟨a0, l0, c0, rfl⟩ := okWide_slice Try.underlying22 hv
  obtain ⟨fuel, hf⟩ := h
  rcases open_ints Try.underlying22 Try.underlying5 (by kernel_rfl) hf with ⟨h1, _⟩ | ⟨a, len, cap, zs, h1, _, hlc, _, hz, _, hcell, hwz⟩
  · have : Value.slice a0 l0 c0 = .slice none 0 0 := by simpa [Value.cells] using h1
    rw [this]
    exact ⟨none, 0, 0, rfl, fun h => absurd h (Nat.not_lt_zero _)⟩
  · have : Value.slice a0 l0 c0 = .slice (some a) len cap := by simpa [Value.cells] using h1
    rw [this]
    have hle : len ≤ zs.length := by rw [hz]; split <;> omega
    refine ⟨some a, len, cap, rfl, fun hp => ?_⟩
    have h0 := hcell 0 (by omega)
    obtain ⟨ab, ao, spot⟩ := a
    have hspot : spot = none := by simpa [Addr.add] using World.cell?_spot h0
    subst hspot
    refine ⟨ab, ao, rfl, World.block_lt_of_cell? w ⟨ab, ao, none⟩ (by simpa [Addr.add] using h0), fun i hi => ?_⟩
    have hcj := hcell i (by omega)
    rw [Addr.add_lit] at hcj
    have hb := range_u8 hwz i
    rw [← List.getD_eq_getElem?_getD] at hb
    refine ⟨(zs.getD i 0).toNat, ?_, by omega⟩
    rw [hcj]
    congr 2
    omega

set_option maxRecDepth 100000 in
theorem netsLifted (os : Os) (started : os.Started) (H : Type) (enc : TypeId × Value → H) :
    ReturnsInHanded {} Try.checked os 3 .any (Rows.fnNetsSpec.pre6 enc Try.prog Try.f3 Rows.fnNetsRow.domain false) (Rows.fnNetsSpec.post enc Try.prog Try.f3 false true false false) := by
  refine returnsInHanded_of_change (C := Try.checked) ownC started (by kernel_rfl) Try.func3
    (ChangeSpec.witness6 (enc := enc) (C := Try.checked) false ⟨#[], #[.slice none 0 0, .slice none 0 0], []⟩ 8 (by kernel_rfl) (by kernel_rfl) (by kernel_rfl) (by kernel_rfl)) ?_
  intro W base args ds gs before hval0 hW hcnd _
  have hval : ∀ (j : Nat) t v, Try.f3.params[j]? = some t → args[j]? = some v → Value.okWide Try.prog W .any base t v := hval0
  have hW' := hW
  obtain ⟨p, q, hA0, hV, rfl, _, _⟩ := hW
  have hA : DataW.TrodAll enc Try.prog W 0 (fun _ => true) true Try.f3.params.toList args.toList ds p := hA0
  rw [Try.params3] at hA hval
  obtain ⟨v0, v1, d0, d1, p0, p1, rfl, rfl, rfl, h0, h1⟩ := trodAll_two hA
  obtain ⟨rfl, rfl⟩ := trodVars_none hV
  have lt0 : ∀ x ∈ p0, x.block < W.heap.size := by obtain ⟨m, hm⟩ := h0; exact DataW.trod_lt m _ _ _ hm
  have lt1 : ∀ x ∈ p1, x.block < W.heap.size := by obtain ⟨m, hm⟩ := h1; exact DataW.trod_lt m _ _ _ hm
  obtain ⟨a1, n1, ca1, rfl, hc1⟩ := openBytes (hval 0 22 v0 rfl rfl) h0
  obtain ⟨a2, n2, ca2, rfl, hc2⟩ := openBytes (hval 1 22 v1 rfl rfl) h1
  clear hA0 hval0
  refine (lawN a1 a2 n1 n2 ca1 ca2 W hc1 hc2).mono fun e W' ⟨he, bel⟩ => ?_
  subst he
  exact ⟨_, rfl, _, _, _, [], _, [], hW', trodAll_mk1 (shut_bool Try.underlying4 _), trodAll_mk2 (Below.trod laidOutC (by kernel_rfl) (of_decide_eq_true (by kernel_rfl)) h0 bel lt0) (Below.trod laidOutC (by kernel_rfl) (of_decide_eq_true (by kernel_rfl)) h1 bel lt1), rfl, bel.frame _, fun h => by cases h⟩

theorem nets_holds : Rows.FnNetsSaid :=
  OpenClaim.holds_of_wide 3 Try.f3 rfl rfl rfl rfl rfl rfl rfl ⟨rfl, rfl, rfl, rfl, rfl⟩ rfl rfl rfl rfl rfl (by kernel_rfl) Try.func3 (by kernel_rfl)
    (of_decide_eq_true (by kernel_rfl)) (by unfold Func.isWrapper; first | (rw [if_pos (by decide +kernel)]; kernel_rfl) | (rw [if_neg (by decide +kernel)]; exact ⟨rfl, rfl⟩))
    (fun os started H enc _ => netsLifted os started H enc)
#print axioms nets_holds
end Go.Proofs.Ytkjljajjjhfklaa

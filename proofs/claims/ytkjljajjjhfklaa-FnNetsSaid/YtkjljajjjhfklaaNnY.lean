/- Nets, the law: R8Net. -/
import Derived.Test.YtkjljajjjhfklaaNnX
namespace Go.Proofs.Ytkjljajjjhfklaa
open Go.RowKit Go.Fl
set_option maxRecDepth 100000 in
theorem l00From (a : Option Addr) (n c : Nat) (w : World) :
    Calls Try.prog 24 #[.slice a n c] w fun e w' => e = .returned (.pointer (some ⟨w.heap.size, 0, none⟩)) ∧ w' = w.alloc (.cells #[.slice a n c, .int .i64 0, .int .u64 0] 103) := by
  go_enter Try.func24, Try.ntmps24
  go_wp2_with fail
  go_ret
  exact ⟨rfl, rfl⟩
theorem NetR.onet {w : World} {lo bv cv bf cf : Nat} {g : Nat → Nat} {cs csf : List Value} {ps : List Sp} {fs : List (List Int)} (h : NetR w lo bv cv bf cf g cs csf ps fs) : ONet w lo w.heap.size (some ⟨bv, 0, none⟩) (some ⟨bf, 0, none⟩) ps fs :=
  ⟨⟨.inr ⟨bv, rfl, h.lb, h.row.lt, h.row.room, h.row.spots h.sp⟩⟩, .inr ⟨bf, g, rfl, h.fa, fun b e => by cases e; exact ⟨h.ne, h.nes⟩⟩⟩
theorem ONet.slc {w : World} {lo hi : Nat} {sa fa : Option Addr} {ps : List Sp} {fs : List (List Int)} (h : ONet w lo hi sa fa ps fs) : SlC w lo hi fa fs := fun b off e => by
  rcases h.facets with ⟨h1, _⟩ | ⟨bf, g, h1, h2, _⟩
  · rw [h1] at e; cases e
  · rw [h1] at e
    cases e
    exact ⟨h2.row.1, h2.row.2, fun i hi ai n ci hc => h2.cap i hi ai n ci (by rw [Nat.zero_add] at hc; exact hc)⟩
set_option maxHeartbeats 4000000 in
set_option maxRecDepth 100000 in
theorem r8NetN (a : Option Addr) (n c : Nat) (hn : n ≤ 48) (w : World) (h : CodeAt w w.heap.size a n) :
    Calls Try.prog 5 #[.slice a n c] w fun e w' => (∃ sa fa cn cm ps fs, e = .returned (netV sa fa ps.length cn fs.length cm) ∧ ONet w' w.heap.size w'.heap.size sa fa ps fs ∧ Shp ps.length fs ∧ AllB 3 ps) ∧ Below w.heap.size w w' := by
  have H := Lib.hid h
  clear h
  have hR0 : OwnC (w.alloc (.cells #[.slice none 0 0, .slice none 0 0] 27)) w.heap.size #[.slice none 0 0, .slice none 0 0] 27 := OwnC.new rfl
  have HR := Lib.hid hR0
  clear hR0
  have HS : Hid (SrcAt ((w.alloc (.cells #[.slice none 0 0, .slice none 0 0] 27)).alloc (.cells #[.slice a n c, .int .i64 0, .int .u64 0] 103)) 103 (w.heap.size + 1) a n c 0) := Lib.hid (by
    refine ⟨0, 0, OwnC.new (by simp), Nat.le_refl _, ?_⟩
    have := H.out.far (w' := (w.alloc (.cells #[.slice none 0 0, .slice none 0 0] 27)).alloc (.cells #[.slice a n c, .int .i64 0, .int .u64 0] 103)) (((Far.refl _ _ _).alloc _ (Nat.le_refl _)).alloc _ (by simp))
    intro hp
    obtain ⟨b, off, h1, h2, h3⟩ := this hp
    exact ⟨b, off, h1, by omega, h3⟩)
  go_enter Try.func5, Try.ntmps5
  go_wp2_with (first
    | (go_at_call 24; refine (l00From a n c _).mono ?_; rintro e w1 ⟨rfl, rfl⟩)
    | (go_at_call 25; refine (l06DrawOkN (w.heap.size + 1) a n c 0 hn (by decide) _ HS.out (by simp)).mono ?_; rintro e w5 ⟨⟨bv, cv, bf, cf, g, cs, csf, ps, fs, rfl, hN, hS, hB⟩, hC⟩; have HN := Lib.hid hN; have HSh := Lib.hid hS; have HBd := Lib.hid hB; have HC := Lib.hid hC; have R5 := hC.own (HR.out.alloc (.cells #[.slice a n c, .int .i64 0, .int .u64 0] 103)) (by simp); have r0 := R5.cell 0; have r1 := R5.cell 1; have f0 := R5.free 0; have f1 := R5.free 1; simp at r0 r1; clear hN hS hB hC))
  have R := (R5.set 0 (.slice (some ⟨bv, 0, none⟩) ps.length cv)).set 1 (.slice (some ⟨bf, 0, none⟩) fs.length cf)
  have q0 := R.cell 0
  have q1 := R.cell 1
  simp at q0 q1
  refine bodyPost_ret (v := .agg #[.slice (some ⟨bv, 0, none⟩) ps.length cv, .slice (some ⟨bf, 0, none⟩) fs.length cf]) (by simp [results, Try.results5, go_sem, *]) rfl ?_
  have hk : ∀ d, d ≠ w.heap.size → ((w5.setCell ⟨w.heap.size, 0, none⟩ (.slice (some ⟨bv, 0, none⟩) ps.length cv)).setCell ⟨w.heap.size, 1, none⟩ (.slice (some ⟨bf, 0, none⟩) fs.length cf)).heap[d]? = w5.heap[d]? := fun d hd => by
    rw [Below.heap_setCell _ _ _ _ hd, Below.heap_setCell _ _ _ _ hd]
  have hN := HN.out
  have hC := HC.out
  have hz := hC.size
  simp only [World.size_alloc] at hN hz
  have h2 := (hN.far (fun d h1 _ => hk d (by omega)) (by simp)).lower (lo' := w.heap.size) (by omega)
  have hB5 : Below w.heap.size w w5 := ((((Below.refl _ _).alloc (Nat.le_refl _) _).alloc (by simp) _).trans (hC.toBelow (B := w.heap.size) (by simp; omega) (fun b hb => by omega)))
  exact ⟨⟨_, _, cv, cf, ps, fs, rfl, h2.onet, HSh.out, HBd.out⟩, (hB5.setCell (Nat.le_refl _) _).setCell (Nat.le_refl _) _⟩
end Go.Proofs.Ytkjljajjjhfklaa

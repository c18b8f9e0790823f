/- impl.ReadSheet: what a round of its loop over threes keeps. -/
import Derived.Test.YtlpgaekkhlinhaaGreatDoorRhK
import Derived.Laws.EntriesVeiled
namespace Go.Fl
open Go.RowKit
theorem ORow0.cells {w : World} {e : TypeId} {size n b : Nat} {v : Value} {cs : List Value} (h : ORow0 w e size v n cs) (hv : v.ownBlock = some b) : ∃ o : Obj, w.heap[b]? = some o ∧ o.isCells = true := by
  obtain ⟨q1, q2⟩ := h
  rcases q2 with ⟨rfl, _⟩ | ⟨g, c, cur, rfl, hl, hg, r⟩
  · cases hv
  · have : g = b := by simpa [Value.ownBlock] using hv
    subst this
    exact ⟨_, hg, rfl⟩
theorem ORow0.same {w w' : World} {e : TypeId} {size n : Nat} {v : Value} {cs : List Value} (h : ORow0 w e size v n cs) (hs : ∀ b, v.ownBlock = some b → w'.heap[b]? = w.heap[b]?) : ORow0 w' e size v n cs := by
  obtain ⟨q1, q2⟩ := h
  refine ⟨q1, ?_⟩
  rcases q2 with h0 | ⟨g, c, cur, rfl, hl, hg, r⟩
  · exact .inl h0
  · exact .inr ⟨g, c, cur, rfl, hl, (hs g rfl).trans hg, r⟩
theorem PushI.turned {S : Nat → Prop} {wb W W' : World} {p n : Nat} {T e : TypeId} {cs : Array Value} {size : Nat} {v : Value} {xs : List Value} {row : Option Nat} (h : PushI S wb W p T cs e size v n xs) (hg : W.grownBy W' row)
    (hr : ∀ r, row = some r → wb.heap.size ≤ r ∧ ∃ o : Obj, W.heap[r]? = some o ∧ o.isCells = false) : PushI S wb W' p T cs e size v n xs := by
  have key : ∀ b, (∃ o : Obj, W.heap[b]? = some o ∧ o.isCells = true) → W'.heap[b]? = W.heap[b]? := fun b ⟨o, ho, hc⟩ => hg.block b (Array.getElem?_eq_some_iff.1 ho).1 (fun e => by
    obtain ⟨_, o', ho', hc'⟩ := hr b e.symm
    rw [ho] at ho'
    cases ho'
    rw [hc] at hc'
    cases hc')
  refine ⟨ORow0.same h.row (fun b hb => key b (ORow0.cells h.row hb)), (key p ⟨_, h.own, rfl⟩).trans h.own, h.vb, ?_⟩
  exact ⟨hg.os.trans h.ch.os, hg.tape.trans h.ch.tape, hg.output.trans h.ch.output, Nat.le_trans h.ch.size hg.size, fun b hb hn => (hg.block b (Nat.lt_of_lt_of_le hb h.ch.size) (fun e => by have := (hr b e.symm).1; omega)).trans (h.ch.block b hb hn)⟩
theorem PushI.drew {S : Nat → Prop} {wb W : World} {p n : Nat} {T e : TypeId} {cs : Array Value} {size : Nat} {v : Value} {xs : List Value} (h : PushI S wb W p T cs e size v n xs) : PushI S wb W.drew p T cs e size v n xs :=
  h.turned (row := none) ⟨rfl, rfl, rfl, Nat.le_refl _, fun _ _ _ => rfl⟩ (fun r e => by cases e)
theorem PushI.round {wb W w7 : World} {p j n : Nat} {T e : TypeId} {cs : Array Value} {size : Nat} {v u : Value} {xs : List Value} {o : Obj} (h : PushI (fun c => c = p) wb W p T cs e size v n xs) (hg7 : (W.alloc o).grownBy w7 v.ownBlock) (B : Nat) :
    Go.KeepsFrom B W (w7.setCell ⟨p, j, none⟩ u) ∧ (∀ c, c < wb.heap.size → c ≠ p → (w7.setCell ⟨p, j, none⟩ u).heap[c]? = W.heap[c]?) := by
  have z0 := h.ch.size
  have z7 : W.heap.size + 1 ≤ w7.heap.size := by have := hg7.size; simpa using this
  have key : ∀ c, c < W.heap.size → c ≠ p → v.ownBlock ≠ some c → (w7.setCell ⟨p, j, none⟩ u).heap[c]? = W.heap[c]? := fun c h1 h2 h3 => (Below.heap_setCell _ _ _ _ h2).trans ((hg7.block c (by simp; omega) (fun e => h3 e.symm)).trans (Below.heap_alloc _ _ _ h1))
  refine ⟨⟨by simp; omega, fun k o' _ hk hc => (key k (Array.getElem?_eq_some_iff.1 hk).1 (fun e => ?_) (fun e => ?_)).trans hk⟩, fun c h1 h2 => key c (by omega) h2 (fun e => ?_)⟩
  · subst e
    rw [h.own] at hk
    cases hk
    cases hc
  · obtain ⟨o2, h2, h3⟩ := ORow0.cells h.row e
    rw [h2] at hk
    cases hk
    rw [h3] at hc
    cases hc
  · rcases (h.vb c e).1 with h3 | h3
    · exact h2 h3
    · omega
/-- the spots at places -/
def spotsAt (xs : List Nat) (ks : List Nat) : List Sp := ks.map fun i => (xs.getD (3 * i) 0, xs.getD (3 * i + 1) 0, xs.getD (3 * i + 2) 0)
theorem spotsAt_snoc (xs ks : List Nat) (k : Nat) : spotsAt xs (ks ++ [k]) = spotsAt xs ks ++ [(xs.getD (3 * k) 0, xs.getD (3 * k + 1) 0, xs.getD (3 * k + 2) 0)] := by simp [spotsAt]
theorem spotsAt_range (xs : List Nat) (m : Nat) : spotsAt xs (List.range m) = spotsOf xs m := rfl
end Go.Fl
namespace Go.Proofs.YtlpgaekkhlinhaaGreatDoor
open Go.RowKit Go.Fl
def bodyQ (P : Program) (fn : Func) (R : Ending → World → Prop) : Exit → Act → World → Prop
  | .normal, a, w => LeavesInM Fence.wide 3 P fn a.tmps R a.defers .returning w
  | .ret, a, w => LeavesInM Fence.wide 3 P fn a.tmps R a.defers .returning w
  | .exit _, _, _ => False
  | .goto _, _, _ => False
  | .panic _, _, _ => False
  | .outgrown, _, _ => False
theorem bodyQ_to {P : Program} {fn : Func} {R : Ending → World → Prop} : ∀ e a w, bodyQ P fn R e a w → bodyPostM Fence.wide 3 P fn R e a w
  | .normal, _, _, h => h
  | .ret, _, _, h => h
  | .exit _, _, _, h => h.elim
  | .goto _, _, _, h => h.elim
  | .panic _, _, _, h => h.elim
  | .outgrown, _, _, h => h.elim
theorem ret_backG {P : Program} {fn : Func} {R : Ending → World → Prop} {D : Nat} {t : Array Value} {w : World} {v : Value} (hK : w.heap[D]? = some (.deferred (some [])))
    (hr : (results fn t).run P (w.putObj D (.deferred none)) = .ok v (w.putObj D (.deferred none))) (h : R (.returned v) (w.putObj D (.deferred none))) : bodyQ P fn R .ret { tmps := t, defers := [{ target := .collected D, args := #[] }] } w :=
  ⟨by simp, .inl ⟨_, _, rfl, run_takeDeferred hK, ⟨_, hr, h⟩⟩⟩
theorem ret_early {P : Program} {fn : Func} {R : Ending → World → Prop} {t : Array Value} {w : World} {v : Value} (hr : (results fn t).run P w = .ok v w) (h : R (.returned v) w) : bodyQ P fn R .ret { tmps := t, defers := [] } w := ⟨_, hr, h⟩
end Go.Proofs.YtlpgaekkhlinhaaGreatDoor

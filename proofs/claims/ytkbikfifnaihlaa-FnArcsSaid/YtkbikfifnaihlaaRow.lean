/- Rows that grow by append: the walk's own. -/
import Derived.Test.YtkbikfifnaihlaaChecked
import Derived.Test.YtkbikfifnaihlaaMem
import Derived.Deep.AppendLies
namespace Go.Fl

/-- the slice at block b of length n and capacity cap is the walk's own and holds the cells cs -/
def ORow (w : World) (e : TypeId) (size b cap n : Nat) (cs : List Value) : Prop := w.ownsRow b e size (.slice (some ⟨b, 0, none⟩) n cap) n cs
/-- from w0 to w1 blocks came, and of the old ones block b alone turned -/
structure Grew (b : Nat) (w0 w1 : World) : Prop where
  os : w1.os = w0.os
  tape : w1.tape = w0.tape
  output : w1.output = w0.output
  size : w0.heap.size ≤ w1.heap.size
  block : ∀ c, c < w0.heap.size → c ≠ b → w1.heap[c]? = w0.heap[c]?
theorem Grew.below {b B : Nat} {w0 w1 : World} (h : Grew b w0 w1) (hb : B ≤ b) (hs : B ≤ w0.heap.size) : RowKit.Below B w0 w1 := ⟨h.os, h.tape, h.output, h.size, fun c hc => h.block c (by omega) (by omega)⟩
theorem Grew.far {b lo hi : Nat} {w0 w1 : World} (h : Grew b w0 w1) (hs : hi ≤ w0.heap.size) (hd : hi ≤ b ∨ b < lo) : Far lo hi w0 w1 := fun c h1 h2 => h.block c (by omega) (by omega)
theorem ORow.lt {w : World} {e : TypeId} {size b cap n : Nat} {cs : List Value} (h : ORow w e size b cap n cs) : b < w.heap.size := (World.ownsRow.lt (show w.ownsRow b e size _ n cs from h) b rfl).2
theorem ORow.far {w w' : World} {e : TypeId} {size b cap n lo hi : Nat} {cs : List Value} (h : ORow w e size b cap n cs) (hf : Far lo hi w w') (h1 : lo ≤ b) (h2 : b < hi) : ORow w' e size b cap n cs := by
  obtain ⟨hl, hr⟩ := h
  refine ⟨hl, ?_⟩
  rcases hr with ⟨hn, _⟩ | ⟨g, c, cur, hv, hb, hg, rest⟩
  · cases hn
  · refine .inr ⟨g, c, cur, hv, hb, ?_, rest⟩
    have : g = b := by simpa using (Value.slice.inj hv).1.symm
    subst this
    exact (hf g h1 h2).trans hg
theorem ORow.below {w w' : World} {e : TypeId} {size b cap n B : Nat} {cs : List Value} (h : ORow w e size b cap n cs) (hb : RowKit.Below B w w') (hl : b < B) : ORow w' e size b cap n cs :=
  h.far (lo := 0) (Far.below hb (Nat.le_refl _)) (Nat.zero_le _) hl
theorem ORow.grew {w w' : World} {e : TypeId} {size b b' cap n : Nat} {cs : List Value} (h : ORow w e size b cap n cs) (hg : Grew b' w w') (hne : b ≠ b') : ORow w' e size b cap n cs :=
  h.far (lo := b) (hi := b + 1) (fun c h1 h2 => hg.block c (by have := h.lt; omega) (by omega)) (Nat.le_refl _) (Nat.lt_succ_self _)
theorem ORow.new (w : World) (e : TypeId) (size : Nat) : ORow (w.alloc (.cells #[] e)) e size w.heap.size 0 0 [] :=
  World.ownsRow_made w #[] 0 (Nat.le_refl _) (by simp [maxLen]) (by simp)
theorem ORow.block {w : World} {e : TypeId} {size b cap n : Nat} {cs : List Value} (h : ORow w e size b cap n cs) : ∃ cur, OwnC w b cur e ∧ n * size ≤ cur.size ∧ cur.toList.take (n * size) = cs ∧ cs.length = n * size := by
  obtain ⟨hl, hr⟩ := h
  rcases hr with ⟨hn, _⟩ | ⟨g, c, cur, hv, hb, hg, h1, h2, h3, h4⟩
  · cases hn
  · have hgb : g = b := by simpa using (Value.slice.inj hv).1.symm
    subst hgb
    exact ⟨cur, hg, by rw [h3]; exact Nat.mul_le_mul_right _ h1, h4, hl⟩
theorem ORow.room {w : World} {e : TypeId} {size b cap n : Nat} {cs : List Value} (h : ORow w e size b cap n cs) : Room w b (n * size) := by
  obtain ⟨cur, h1, h2, _⟩ := h.block
  exact ⟨cur, e, h1, h2⟩
theorem ORow.cell {w : World} {e : TypeId} {size b cap n : Nat} {cs : List Value} (h : ORow w e size b cap n cs) (i : Nat) (hi : i < n * size) : w.cell? ⟨b, i, none⟩ = cs[i]? := by
  obtain ⟨cur, h1, h2, h3, _⟩ := h.block
  rw [h1.cell, ← h3, List.getElem?_take_of_lt hi, Array.getElem?_toList]
/-- a row of numbers -/
theorem ORow.ints {w : World} {e : TypeId} {b cap n : Nat} {xs : List Int} (h : ORow w e 1 b cap n (xs.map (Value.int .i64))) (hn : n = xs.length) : SlI w b (b + 1) (some ⟨b, 0, none⟩) xs := fun _ =>
  ⟨b, 0, rfl, Nat.le_refl _, Nat.lt_succ_self _, fun i hi => by
    rw [Nat.zero_add, h.cell i (by omega)]
    simp [iAt, hi]⟩

theorem wpList_app {P : Program} {ops : Array Oper} {rest : List Oper} {o : Oper} {a : Act} {Q : Exit → Act → World → Prop} (hgd : o.guard = none) (s x : Operand) (t : TypeId)
    (ho : o.op = .call { callee := .builtin .append, args := #[s, x], argTypes := #[t, t] })
    (e : TypeId) (z : Value) (size bytes : Nat) (ht : P.underlying t = some (.slice e)) (hinfo : (P.info? e).map (fun i => (i.zero, i.size, i.bytes)) = some (some z, size, bytes)) (hzs : z.cells.size = size) (hsz : 0 < size)
    (w0 : World) (cells : Array Value) (e' : TypeId) (hc : cells.size = size) (h1 : ∀ u ∈ cells.toList, u.oneCell' = true)
    (b cap n : Nat) (cs : List Value) (hs : a.eval s = .slice (some ⟨b, 0, none⟩) n cap) (hx : a.eval x = .slice (some ⟨w0.heap.size, 0, none⟩) 1 1) (hrow : ORow w0 e size b cap n cs)
    (hn : n ≤ 1099511627776) (hby : bytes ≤ 64)
    (h : ∀ b' cap' w1, ORow w1 e size b' cap' (n + 1) (cs ++ cells.toList) → (b' = b ∨ w0.heap.size < b') → Grew b w0 w1 → wpList P ops Q rest (a.put o.dst (.slice (some ⟨b', 0, none⟩) (n + 1) cap')) w1) :
    wpList P ops Q (o :: rest) a (w0.alloc (.cells cells e')) := by
  obtain ⟨i, hi, hzz⟩ := Option.map_eq_some_iff.1 hinfo
  simp only [Prod.mk.injEq] at hzz
  obtain ⟨hz, hs1, hb1⟩ := hzz
  have hlt := hrow.lt
  have hrow' : (w0.alloc (.cells cells e')).ownsRow 0 e size (.slice (some ⟨b, 0, none⟩) n cap) n cs := by
    have := hrow.far (lo := 0) (hi := w0.heap.size) ((Far.refl _ _ w0).alloc (.cells cells e') (Nat.le_refl _)) (Nat.zero_le _) hlt
    obtain ⟨q1, q2⟩ := this
    refine ⟨q1, ?_⟩
    rcases q2 with ⟨q3, _⟩ | ⟨g, c, cur, hv, _, r⟩
    · cases q3
    · exact .inr ⟨g, c, cur, hv, Nat.zero_le _, r⟩
  refine wpList_append_lies (w0.alloc (.cells cells e')) hgd s x t ho 0 e i z size bytes ht hi hz hs1 hb1 hzs hsz _ n cs hs hrow' ⟨w0.heap.size, 0, none⟩ 1 1 cells.toList hx (by simp [hc]) (World.news_of_block (heap_alloc_new w0 _)) h1 (by omega) (by simp [maxLen]; omega)
    (Nat.le_trans (Nat.mul_le_mul_left (n + 1) hby) (by omega)) (Nat.zero_le _) (w0.heap.size + 1) (by simp) ?_
  intro g cap1 w1 hown hgrow hat _
  have hg : g = b ∨ g = w0.heap.size + 1 := by
    rcases hat with hat | hat
    · exact .inl (by simpa [Value.ownBlock] using hat.symm)
    · exact .inr hat
  refine h g cap1 w1 ?_ (hg.imp id fun h => by omega) ?_
  · obtain ⟨q1, q2⟩ := hown
    refine ⟨q1, ?_⟩
    rcases q2 with ⟨q3, _⟩ | ⟨g2, c, cur, hv, _, r⟩
    · cases q3
    · refine .inr ⟨g2, c, cur, hv, ?_, r⟩
      have : g2 = g := by simpa using (Value.slice.inj hv).1.symm
      omega
  · refine ⟨hgrow.os, hgrow.tape, hgrow.output, Nat.le_trans (by simp) hgrow.size, fun c hc hne => ?_⟩
    rw [hgrow.block c (by simp; omega) (by simp [Value.ownBlock, hne])]
    exact RowKit.Below.heap_alloc _ _ _ hc
theorem wpList_app2 {P : Program} {ops : Array Oper} {rest : List Oper} {o : Oper} {a : Act} {Q : Exit → Act → World → Prop} (hgd : o.guard = none) (s x : Operand) (t : TypeId)
    (ho : o.op = .call { callee := .builtin .append, args := #[s, x], argTypes := #[t, t] })
    (e : TypeId) (z : Value) (size bytes : Nat) (ht : P.underlying t = some (.slice e)) (hinfo : (P.info? e).map (fun i => (i.zero, i.size, i.bytes)) = some (some z, size, bytes)) (hzs : z.cells.size = size) (hsz : 0 < size)
    (w0 : World) (cells : Array Value) (e' : TypeId) (hc : cells.size = size) (h1 : ∀ u ∈ cells.toList, u.oneCell' = true)
    (nb b cap n : Nat) (cs : List Value) (hs : a.eval s = .slice (some ⟨b, 0, none⟩) n cap) (hx : a.eval x = .slice (some ⟨nb, 0, none⟩) 1 1) (hnb : nb = w0.heap.size) (hrow : ORow w0 e size b cap n cs)
    (hn : n ≤ 1099511627776) (hby : bytes ≤ 64)
    (h : ∀ b' cap' w1, ORow w1 e size b' cap' (n + 1) (cs ++ cells.toList) → (b' = b ∨ w0.heap.size < b') → Grew b w0 w1 → wpList P ops Q rest (a.put o.dst (.slice (some ⟨b', 0, none⟩) (n + 1) cap')) w1) :
    wpList P ops Q (o :: rest) a (w0.alloc (.cells cells e')) := by
  subst hnb
  exact wpList_app hgd s x t ho e z size bytes ht hinfo hzs hsz w0 cells e' hc h1 b cap n cs hs hx hrow hn hby h
end Go.Fl

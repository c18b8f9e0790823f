/- Appends onto a row of bytes that the walk owns: of the cells of another block, of a string's bytes. -/
import Derived.Test.YtkbikfifnaihlaaRow
import Derived.Lib.AppendStr
import Derived.Lib.UnsafeStr
import Derived.Lib.Builder
namespace Go.Fl
open Go.RowKit

theorem orow_base {w : World} {e : TypeId} {size b cap n B : Nat} {cs : List Value} (h : ORow w e size b cap n cs) (hB : B ≤ b) : w.ownsRow B e size (.slice (some ⟨b, 0, none⟩) n cap) n cs := by
  obtain ⟨q1, q2⟩ := h
  refine ⟨q1, ?_⟩
  rcases q2 with ⟨q3, _⟩ | ⟨g, c, cur, hv, _, r⟩
  · cases q3
  · refine .inr ⟨g, c, cur, hv, ?_, r⟩
    have : g = b := by simpa using (Value.slice.inj hv).1.symm
    omega
theorem orow_of {w : World} {e : TypeId} {size b cap n B : Nat} {cs : List Value} (h : w.ownsRow B e size (.slice (some ⟨b, 0, none⟩) n cap) n cs) : ORow w e size b cap n cs ∧ B ≤ b := by
  obtain ⟨q1, q2⟩ := h
  rcases q2 with ⟨q3, _⟩ | ⟨g, c, cur, hv, hB, r⟩
  · cases q3
  · have : g = b := by simpa using (Value.slice.inj hv).1.symm
    subst this
    exact ⟨⟨q1, .inr ⟨g, c, cur, hv, Nat.le_refl _, r⟩⟩, hB⟩
theorem grew_of {b : Nat} {w w1 : World} (h : w.grownBy w1 (some b)) : Grew b w w1 := ⟨h.os, h.tape, h.output, h.size, fun c hc hne => h.block c hc (by simpa using hne)⟩

/-- a block of cells, filled: a row -/
theorem ORow.full (w : World) (e : TypeId) (cs : Array Value) (hm : cs.size ≤ 1048576) : ORow (w.alloc (.cells cs e)) e 1 w.heap.size cs.size cs.size cs.toList :=
  ⟨by simp, .inr ⟨w.heap.size, cs.size, cs, rfl, Nat.le_refl _, heap_alloc_new w _, Nat.le_refl _, by simp [maxLen]; omega, by simp, by rw [Nat.mul_one]; exact List.take_of_length_le (by simp)⟩⟩

section
variable {P : Program} {ops : Array Oper} {rest : List Oper} {o : Oper} {a : Act} {w : World}

/-- append of m cells that lie in another block -/
theorem wp_appB {K : Act → World → Prop} {Q : Exit → Act → World → Prop} (s x : Operand) (t : TypeId)
    (ho : o.op = .call { callee := .builtin .append, args := #[s, x], argTypes := #[t, t] })
    (e : TypeId) (z : Value) (bytes : Nat) (ht : P.underlying t = some (.slice e)) (hinfo : (P.info? e).map (fun i => (i.zero, i.size, i.bytes)) = some (some z, 1, bytes)) (hzs : z.cells.size = 1) (hby : bytes ≤ 64)
    (b cap n : Nat) (cs : List Value) (hs : a.eval s = .slice (some ⟨b, 0, none⟩) n cap) (hrow : ORow w e 1 b cap n cs)
    (nb m c : Nat) (news : List Value) (hx : a.eval x = .slice (some ⟨nb, 0, none⟩) m c) (hl : news.length = m) (hnews : ∀ (j : Nat) u, news[j]? = some u → w.cell? ⟨nb, j, none⟩ = some u) (h1 : ∀ u ∈ news, u.oneCell' = true)
    (hm : 0 < m) (hn : n + m ≤ 1048576) (B : Nat) (hB : B ≤ b) (hBw : B ≤ w.heap.size)
    (h : ∀ b' cap' w1, ORow w1 e 1 b' cap' (n + m) (cs ++ news) → B ≤ b' → Grew b w w1 → K (a.put o.dst (.slice (some ⟨b', 0, none⟩) (n + m) cap')) w1) : o.wp P a w K Q := by
  obtain ⟨i, hi, hzz⟩ := Option.map_eq_some_iff.1 hinfo
  simp only [Prod.mk.injEq] at hzz
  obtain ⟨hz, hs1, hb1⟩ := hzz
  refine wp_append_lies w s x t ho B e i z 1 bytes ht hi hz hs1 hb1 hzs (by decide) _ n cs hs (orow_base hrow hB) ⟨nb, 0, none⟩ m c news hx (by omega) (fun j u hj => ?_) h1 hm (by simp [maxLen]; omega)
    (Nat.le_trans (Nat.mul_le_mul_left (n + m) hby) (by omega)) hBw _ rfl ?_
  · have hadd : (⟨nb, 0, none⟩ : Addr).add j = ⟨nb, j, none⟩ := by unfold Addr.add; split <;> simp_all
    rw [hadd]; exact hnews j u hj
  · intro g cap1 w1 hown hgrow _ _
    obtain ⟨h2, h3⟩ := orow_of hown
    exact h g cap1 w1 h2 h3 (grew_of hgrow)

/-- append of a string's bytes -/
theorem wp_appS {K : Act → World → Prop} {Q : Exit → Act → World → Prop} (s x : Operand) (t u : TypeId)
    (ho : o.op = .call { callee := .builtin .append, args := #[s, x], argTypes := #[t, u] })
    (e : TypeId) (ht : P.underlying t = some (.slice e)) (hu : P.underlying u = some .string) (hinfo : (P.info? e).map (fun i => (i.zero, i.size, i.bytes)) = some (some (.int .u8 0), 1, 1))
    (b cap n : Nat) (cs : List Value) (hs : a.eval s = .slice (some ⟨b, 0, none⟩) n cap) (hrow : ORow w e 1 b cap n cs)
    (tx : ByteArray) (hx : a.eval x = .string tx) (hn0 : 0 < n) (hn : n + tx.size ≤ 1048576) (B : Nat) (hB : B ≤ b) (hBw : B ≤ w.heap.size)
    (h : ∀ b' cap' w1, ORow w1 e 1 b' cap' (n + tx.size) (cs ++ Lib.byteCells tx.data.toList) → B ≤ b' → Grew b w w1 → K (a.put o.dst (.slice (some ⟨b', 0, none⟩) (n + tx.size) cap')) w1) : o.wp P a w K Q := by
  obtain ⟨i, hi, hzz⟩ := Option.map_eq_some_iff.1 hinfo
  simp only [Prod.mk.injEq] at hzz
  obtain ⟨hz, hs1, hb1⟩ := hzz
  obtain ⟨v', w', hr, h2, h3, _⟩ := Lib.run_append_own_string (P := P) w B t u o.type e i ht hu hi hz hs1 hb1 _ n cs (orow_base hrow hB) tx (by simp [maxLen]; omega) (by omega) hBw
  obtain ⟨g, cap1, rfl, _, _⟩ := h2.form (by omega)
  obtain ⟨h4, h5⟩ := orow_of h2
  unfold Oper.wp execOp
  simp only [ho, resolve, invoke, builtin, Sem.run_bind, Sem.run_pure, Result.andThen_ok, List.map_toArray, List.map_cons, List.map_nil, hs, hx, hr]
  exact h g cap1 w' h4 h5 (grew_of h3)

theorem wpList_appB {Q : Exit → Act → World → Prop} (hgd : o.guard = none) (s x : Operand) (t : TypeId)
    (ho : o.op = .call { callee := .builtin .append, args := #[s, x], argTypes := #[t, t] })
    (e : TypeId) (z : Value) (bytes : Nat) (ht : P.underlying t = some (.slice e)) (hinfo : (P.info? e).map (fun i => (i.zero, i.size, i.bytes)) = some (some z, 1, bytes)) (hzs : z.cells.size = 1) (hby : bytes ≤ 64)
    (b cap n : Nat) (cs : List Value) (hs : a.eval s = .slice (some ⟨b, 0, none⟩) n cap) (hrow : ORow w e 1 b cap n cs)
    (nb m c : Nat) (news : List Value) (hx : a.eval x = .slice (some ⟨nb, 0, none⟩) m c) (hl : news.length = m) (hnews : ∀ (j : Nat) u, news[j]? = some u → w.cell? ⟨nb, j, none⟩ = some u) (h1 : ∀ u ∈ news, u.oneCell' = true)
    (hm : 0 < m) (hn : n + m ≤ 1048576) (B : Nat) (hB : B ≤ b) (hBw : B ≤ w.heap.size)
    (h : ∀ b' cap' w1, ORow w1 e 1 b' cap' (n + m) (cs ++ news) → B ≤ b' → Grew b w w1 → wpList P ops Q rest (a.put o.dst (.slice (some ⟨b', 0, none⟩) (n + m) cap')) w1) : wpList P ops Q (o :: rest) a w :=
  wpList_plain hgd fun _ hK => wp_appB s x t ho e z bytes ht hinfo hzs hby b cap n cs hs hrow nb m c news hx hl hnews h1 hm hn B hB hBw fun b' cap' w1 h2 h3 h4 => hK _ _ (h b' cap' w1 h2 h3 h4)
theorem wpList_appS {Q : Exit → Act → World → Prop} (hgd : o.guard = none) (s x : Operand) (t u : TypeId)
    (ho : o.op = .call { callee := .builtin .append, args := #[s, x], argTypes := #[t, u] })
    (e : TypeId) (ht : P.underlying t = some (.slice e)) (hu : P.underlying u = some .string) (hinfo : (P.info? e).map (fun i => (i.zero, i.size, i.bytes)) = some (some (.int .u8 0), 1, 1))
    (b cap n : Nat) (cs : List Value) (hs : a.eval s = .slice (some ⟨b, 0, none⟩) n cap) (hrow : ORow w e 1 b cap n cs)
    (tx : ByteArray) (hx : a.eval x = .string tx) (hn0 : 0 < n) (hn : n + tx.size ≤ 1048576) (B : Nat) (hB : B ≤ b) (hBw : B ≤ w.heap.size)
    (h : ∀ b' cap' w1, ORow w1 e 1 b' cap' (n + tx.size) (cs ++ Lib.byteCells tx.data.toList) → B ≤ b' → Grew b w w1 → wpList P ops Q rest (a.put o.dst (.slice (some ⟨b', 0, none⟩) (n + tx.size) cap')) w1) : wpList P ops Q (o :: rest) a w :=
  wpList_plain hgd fun _ hK => wp_appS s x t u ho e ht hu hinfo b cap n cs hs hrow tx hx hn0 hn B hB hBw fun b' cap' w1 h2 h3 h4 => hK _ _ (h b' cap' w1 h2 h3 h4)
theorem step_appB {K : Act → World → Prop} {Q : Exit → Act → World → Prop} {E : Prop} (hgd : o.guard = none) (s x : Operand) (t : TypeId)
    (ho : o.op = .call { callee := .builtin .append, args := #[s, x], argTypes := #[t, t] })
    (e : TypeId) (z : Value) (bytes : Nat) (ht : P.underlying t = some (.slice e)) (hinfo : (P.info? e).map (fun i => (i.zero, i.size, i.bytes)) = some (some z, 1, bytes)) (hzs : z.cells.size = 1) (hby : bytes ≤ 64)
    (b cap n : Nat) (cs : List Value) (hs : a.eval s = .slice (some ⟨b, 0, none⟩) n cap) (hrow : ORow w e 1 b cap n cs)
    (nb m c : Nat) (news : List Value) (hx : a.eval x = .slice (some ⟨nb, 0, none⟩) m c) (hl : news.length = m) (hnews : ∀ (j : Nat) u, news[j]? = some u → w.cell? ⟨nb, j, none⟩ = some u) (h1 : ∀ u ∈ news, u.oneCell' = true)
    (hm : 0 < m) (hn : n + m ≤ 1048576) (B : Nat) (hB : B ≤ b) (hBw : B ≤ w.heap.size)
    (h : ∀ b' cap' w1, ORow w1 e 1 b' cap' (n + m) (cs ++ news) → B ≤ b' → Grew b w w1 → K (a.put o.dst (.slice (some ⟨b', 0, none⟩) (n + m) cap')) w1) :
    if Region.wanted o (yielded ops a.tmps) = true then Oper.wp P o a w K Q else E := by
  have hw : Region.wanted o (yielded ops a.tmps) = true := by simp [Region.wanted, hgd]
  rw [if_pos hw]
  exact wp_appB s x t ho e z bytes ht hinfo hzs hby b cap n cs hs hrow nb m c news hx hl hnews h1 hm hn B hB hBw h
theorem step_appS {K : Act → World → Prop} {Q : Exit → Act → World → Prop} {E : Prop} (hgd : o.guard = none) (s x : Operand) (t u : TypeId)
    (ho : o.op = .call { callee := .builtin .append, args := #[s, x], argTypes := #[t, u] })
    (e : TypeId) (ht : P.underlying t = some (.slice e)) (hu : P.underlying u = some .string) (hinfo : (P.info? e).map (fun i => (i.zero, i.size, i.bytes)) = some (some (.int .u8 0), 1, 1))
    (b cap n : Nat) (cs : List Value) (hs : a.eval s = .slice (some ⟨b, 0, none⟩) n cap) (hrow : ORow w e 1 b cap n cs)
    (tx : ByteArray) (hx : a.eval x = .string tx) (hn0 : 0 < n) (hn : n + tx.size ≤ 1048576) (B : Nat) (hB : B ≤ b) (hBw : B ≤ w.heap.size)
    (h : ∀ b' cap' w1, ORow w1 e 1 b' cap' (n + tx.size) (cs ++ Lib.byteCells tx.data.toList) → B ≤ b' → Grew b w w1 → K (a.put o.dst (.slice (some ⟨b', 0, none⟩) (n + tx.size) cap')) w1) :
    if Region.wanted o (yielded ops a.tmps) = true then Oper.wp P o a w K Q else E := by
  have hw : Region.wanted o (yielded ops a.tmps) = true := by simp [Region.wanted, hgd]
  rw [if_pos hw]
  exact wp_appS s x t u ho e ht hu hinfo b cap n cs hs hrow tx hx hn0 hn B hB hBw h
end
/-- cells of a block that has just been made -/
theorem news_new (w : World) (cs : Array Value) (T : TypeId) (j : Nat) (u : Value) (h : cs.toList[j]? = some u) : (w.alloc (.cells cs T)).cell? ⟨w.heap.size, j, none⟩ = some u := by
  rw [Lib.cell_of_heap (heap_alloc_new w _)]
  simpa using h
end Go.Fl

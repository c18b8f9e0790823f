/- Appends of whole slices onto rows of the walk's own; copies of slices. -/
import Derived.Test.YtfpkdnopbnppmaaRow
namespace Go.Fl
/-- of w's own row: nothing yet, or a block of it -/
def ORow0 (w : World) (e : TypeId) (size : Nat) (v : Value) (n : Nat) (cs : List Value) : Prop := w.ownsRow 0 e size v n cs
theorem ORow.row0 {w : World} {e : TypeId} {size b cap n : Nat} {cs : List Value} (h : ORow w e size b cap n cs) : ORow0 w e size (.slice (some ⟨b, 0, none⟩) n cap) n cs := by
  obtain ⟨q1, q2⟩ := h
  refine ⟨q1, ?_⟩
  rcases q2 with ⟨q3, _⟩ | ⟨g, c, cur, hv, _, r⟩
  · cases q3
  · exact .inr ⟨g, c, cur, hv, Nat.zero_le _, r⟩
theorem ownsRow.orow {w : World} {e : TypeId} {size B b cap n : Nat} {cs : List Value} (h : w.ownsRow B e size (.slice (some ⟨b, 0, none⟩) n cap) n cs) : ORow w e size b cap n cs := by
  obtain ⟨q1, q2⟩ := h
  refine ⟨q1, ?_⟩
  rcases q2 with ⟨q3, _⟩ | ⟨g2, c, cur, hv, _, r⟩
  · cases q3
  · refine .inr ⟨g2, c, cur, hv, ?_, r⟩
    have : g2 = b := by simpa using (Value.slice.inj hv).1.symm
    omega
/-- an append of a slice that lies elsewhere -/
theorem wpList_spread {P : Program} {ops : Array Oper} {rest : List Oper} {o : Oper} {a : Act} {Q : Exit → Act → World → Prop} (hgd : o.guard = none) (s x : Operand) (t : TypeId)
    (ho : o.op = .call { callee := .builtin .append, args := #[s, x], argTypes := #[t, t] })
    (e : TypeId) (z : Value) (size bytes : Nat) (ht : P.underlying t = some (.slice e)) (hinfo : (P.info? e).map (fun i => (i.zero, i.size, i.bytes)) = some (some z, size, bytes)) (hzs : z.cells.size = size) (hsz : 0 < size)
    (w0 : World) (b cap n : Nat) (cs : List Value) (hs : a.eval s = .slice (some ⟨b, 0, none⟩) n cap) (hrow : ORow w0 e size b cap n cs)
    (ad : Addr) (m c : Nat) (news : List Value) (hx : a.eval x = .slice (some ad) m c) (hl : news.length = m * size) (hnews : ∀ j u, news[j]? = some u → w0.cell? (ad.add j) = some u) (h1 : ∀ u ∈ news, u.oneCell' = true)
    (hm : 0 < m) (hmn : n + m ≤ 1099511627776) (hby : bytes ≤ 64)
    (h : ∀ b' cap' w1, ORow w1 e size b' cap' (n + m) (cs ++ news) → (b' = b ∨ b' = w0.heap.size) → b' < w1.heap.size → Grew b w0 w1 → wpList P ops Q rest (a.put o.dst (.slice (some ⟨b', 0, none⟩) (n + m) cap')) w1) :
    wpList P ops Q (o :: rest) a w0 := by
  obtain ⟨i, hi, hzz⟩ := Option.map_eq_some_iff.1 hinfo
  simp only [Prod.mk.injEq] at hzz
  obtain ⟨hz, hs1, hb1⟩ := hzz
  refine wpList_append_lies w0 hgd s x t ho 0 e i z size bytes ht hi hz hs1 hb1 hzs hsz _ n cs hs hrow.row0 ad m c news hx hl hnews h1 hm (by simp [maxLen]; omega)
    (Nat.le_trans (Nat.mul_le_mul_left (n + m) hby) (by omega)) (Nat.zero_le _) w0.heap.size rfl ?_
  intro g cap1 w1 hown hgrow hat hlt
  have hg : g = b ∨ g = w0.heap.size := by
    rcases hat with hat | hat
    · exact .inl (by simpa [Value.ownBlock] using hat.symm)
    · exact .inr hat
  refine h g cap1 w1 (ownsRow.orow hown) hg hlt ⟨hgrow.os, hgrow.tape, hgrow.output, hgrow.size, fun c hc hne => ?_⟩
  exact hgrow.block c hc (by simp [Value.ownBlock, hne])
theorem step_spread {P : Program} {ops : Array Oper} {o : Oper} {a : Act} {K : Act → World → Prop} {Q : Exit → Act → World → Prop} {E : Prop} (hgd : o.guard = none) (s x : Operand) (t : TypeId)
    (ho : o.op = .call { callee := .builtin .append, args := #[s, x], argTypes := #[t, t] })
    (e : TypeId) (z : Value) (size bytes : Nat) (ht : P.underlying t = some (.slice e)) (hinfo : (P.info? e).map (fun i => (i.zero, i.size, i.bytes)) = some (some z, size, bytes)) (hzs : z.cells.size = size) (hsz : 0 < size)
    (w0 : World) (v : Value) (n : Nat) (cs : List Value) (hs : a.eval s = v) (hrow : ORow0 w0 e size v n cs)
    (ad : Addr) (m c : Nat) (news : List Value) (hx : a.eval x = .slice (some ad) m c) (hl : news.length = m * size) (hnews : ∀ j u, news[j]? = some u → w0.cell? (ad.add j) = some u) (h1 : ∀ u ∈ news, u.oneCell' = true)
    (hm : 0 < m) (hmn : n + m ≤ 1099511627776) (hby : bytes ≤ 64)
    (h : ∀ b' cap' w1, ORow w1 e size b' cap' (n + m) (cs ++ news) → (v.ownBlock = some b' ∨ b' = w0.heap.size) → b' < w1.heap.size → w0.grownBy w1 v.ownBlock → K (a.put o.dst (.slice (some ⟨b', 0, none⟩) (n + m) cap')) w1) :
    if Region.wanted o (yielded ops a.tmps) = true then Oper.wp P o a w0 K Q else E := by
  obtain ⟨i, hi, hzz⟩ := Option.map_eq_some_iff.1 hinfo
  simp only [Prod.mk.injEq] at hzz
  obtain ⟨hz, hs1, hb1⟩ := hzz
  exact step_append_lies w0 hgd s x t ho 0 e i z size bytes ht hi hz hs1 hb1 hzs hsz v n cs hs hrow ad m c news hx hl hnews h1 hm (by simp [maxLen]; omega)
    (Nat.le_trans (Nat.mul_le_mul_left (n + m) hby) (by omega)) (Nat.zero_le _) w0.heap.size rfl
    (fun g cap1 w1 hown hgrow hat hlt => h g cap1 w1 (ownsRow.orow hown) hat hlt hgrow)
/-- the cells of numbers that a slice holds -/
theorem SlI.news {w : World} {lo hi b off : Nat} {xs : List Int} (h : SlI w lo hi (some ⟨b, off, none⟩) xs) : ∀ j u, (xs.map (Value.int .i64))[j]? = some u → w.cell? ((⟨b, off, none⟩ : Addr).add j) = some u := fun j u hu => by
  have hj : j < xs.length := by
    have := (List.getElem?_eq_some_iff.1 hu).1
    simpa using this
  obtain ⟨b', off', e, _, _, hc⟩ := h (by omega)
  cases e
  have hadd : (⟨b, off, none⟩ : Addr).add j = ⟨b, off + j, none⟩ := by
    cases j
    · simp [Addr.add]
    · simp [Addr.add]
  rw [hadd, hc j hj, ← hu]
  simp [iAt, hj]
end Go.Fl

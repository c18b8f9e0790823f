/- Rows that grow by append: several elements at once. -/
import Derived.Test.YtlpgaekkhlinhaaDoorRow
namespace Go.Fl
/-- an append of m elements -/
theorem wpList_appN {P : Program} {ops : Array Oper} {rest : List Oper} {o : Oper} {a : Act} {Q : Exit → Act → World → Prop} (hgd : o.guard = none) (s x : Operand) (t : TypeId)
    (ho : o.op = .call { callee := .builtin .append, args := #[s, x], argTypes := #[t, t] })
    (e : TypeId) (z : Value) (size bytes : Nat) (ht : P.underlying t = some (.slice e)) (hinfo : (P.info? e).map (fun i => (i.zero, i.size, i.bytes)) = some (some z, size, bytes)) (hzs : z.cells.size = size) (hsz : 0 < size)
    (w0 : World) (cells : Array Value) (e' : TypeId) (m : Nat) (hc : cells.size = m * size) (h1 : ∀ u ∈ cells.toList, u.oneCell' = true)
    (nb b cap n : Nat) (cs : List Value) (hs : a.eval s = .slice (some ⟨b, 0, none⟩) n cap) (hx : a.eval x = .slice (some ⟨nb, 0, none⟩) m m) (hnb : nb = w0.heap.size) (hm : m ≤ 1024) (hm0 : 0 < m) (hrow : ORow w0 e size b cap n cs)
    (hn : n ≤ 1099511627776) (hby : bytes ≤ 64)
    (h : ∀ b' cap' w1, ORow w1 e size b' cap' (n + m) (cs ++ cells.toList) → (b' = b ∨ w0.heap.size < b') → Grew b w0 w1 → wpList P ops Q rest (a.put o.dst (.slice (some ⟨b', 0, none⟩) (n + m) cap')) w1) :
    wpList P ops Q (o :: rest) a (w0.alloc (.cells cells e')) := by
  subst hnb
  obtain ⟨i, hi, hzz⟩ := Option.map_eq_some_iff.1 hinfo
  simp only [Prod.mk.injEq] at hzz
  obtain ⟨hz, hs1, hb1⟩ := hzz
  have hlt := hrow.lt
  have hrow' : (w0.alloc (.cells cells e')).ownsRow 0 e size (.slice (some ⟨b, 0, none⟩) n cap) n cs := by
    have := hrow.far (lo := 0) (hi := w0.heap.size) ((Far.refl _ _ w0).alloc (.cells cells e') (Nat.le_refl _)) (Nat.zero_le _) hlt
    obtain ⟨q1, q2⟩ := this
    refine ⟨q1, ?_⟩
    rcases q2 with ⟨q3, _⟩ | ⟨g, c, cur, hv, _, r⟩
    · cases q3
    · exact .inr ⟨g, c, cur, hv, Nat.zero_le _, r⟩
  refine wpList_append_lies (w0.alloc (.cells cells e')) hgd s x t ho 0 e i z size bytes ht hi hz hs1 hb1 hzs hsz _ n cs hs hrow' ⟨w0.heap.size, 0, none⟩ m m cells.toList hx (by simp [hc]) (World.news_of_block (heap_alloc_new w0 _)) h1 (by omega) (by simp [maxLen]; omega)
    (Nat.le_trans (Nat.mul_le_mul_left (n + m) hby) (by omega)) (Nat.zero_le _) (w0.heap.size + 1) (by simp) ?_
  intro g cap1 w1 hown hgrow hat _
  have hg : g = b ∨ g = w0.heap.size + 1 := by
    rcases hat with hat | hat
    · exact .inl (by simpa [Value.ownBlock] using hat.symm)
    · exact .inr hat
  refine h g cap1 w1 ?_ (hg.imp id fun h => by omega) ?_
  · obtain ⟨q1, q2⟩ := hown
    refine ⟨q1, ?_⟩
    rcases q2 with ⟨q3, _⟩ | ⟨g2, c, cur, hv, _, r⟩
    · cases q3
    · refine .inr ⟨g2, c, cur, hv, ?_, r⟩
      have : g2 = g := by simpa using (Value.slice.inj hv).1.symm
      omega
  · refine ⟨hgrow.os, hgrow.tape, hgrow.output, Nat.le_trans (by simp) hgrow.size, fun c hc hne => ?_⟩
    rw [hgrow.block c (by simp; omega) (by simp [Value.ownBlock, hne])]
    exact RowKit.Below.heap_alloc _ _ _ hc
end Go.Fl

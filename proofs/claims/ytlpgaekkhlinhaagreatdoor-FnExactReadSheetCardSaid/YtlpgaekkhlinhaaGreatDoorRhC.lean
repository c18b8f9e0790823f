/- The plain law of a sheet's two texts: the parts, and the list that grows by appends. -/
import Derived.Test.YtlpgaekkhlinhaaGreatDoorRhP
import Derived.Test.YtlpgaekkhlinhaaGreatDoorSprd
import Derived.Deep.Cut
import Derived.Deep.CutRange
namespace Go.Fl
open Go.RowKit
theorem two_list {α : Type} (L : List α) (h : L.length = 2) : L = [L[0], L[1]] := by
  match L, h with
  | [p, q], _ => rfl
theorem cut2 (s : ByteArray) (h : (pieces s 59).length = 2) : cutL 59 s.data.toList = [(sAt (pieces s 59) 0).data.toList, (sAt (pieces s 59) 1).data.toList] := by
  rw [piece_data s 59 (by omega), piece_data s 59 (by omega)]
  have hl : (cutL 59 s.data.toList).length = 2 := by rw [← pieces_cut_len]; exact h
  exact two_list _ hl
theorem size2 (s : ByteArray) (hs : s.size ≤ 1048576) (h : (pieces s 59).length = 2) : (sAt (pieces s 59) 0).size ≤ 1048576 ∧ (sAt (pieces s 59) 1).size ≤ 1048576 := by
  have hj := join_cutL 59 s.data.toList
  rw [cut2 s h, join_cons2, Lib.join_one] at hj
  have := congrArg List.length hj
  simp only [List.length_append, size_list] at this
  omega
theorem RdSheet.parts {s : List UInt8} {a l : Int} {ps : List Sp} {p q : ByteArray} (h : RdSheet s a l ps) (hc : cutL 59 s = [p.data.toList, q.data.toList]) : ∃ (xs : List Nat) (m : Nat), RdInts p [a, l] ∧ Reads hex1 Own1 q.data.toList xs ∧ xs.length = 3 * m ∧ ps = spotsOf xs m ∧ okSh a l ps = true := by
  obtain ⟨p', q', xs, m, h1, h2, h3, h4, h5, h6⟩ := h
  rw [hc] at h1
  simp only [List.cons.injEq, and_true] at h1
  obtain ⟨e1, e2⟩ := h1
  obtain rfl := data_ext e1
  obtain rfl := data_ext e2
  exact ⟨xs, m, h2, h3, h4, h5, h6⟩
theorem splitN {s : List UInt8} {w0 w' : World} {e : Ending} {T : TypeId} (hy : ∀ xs, Reads hex1 Own1 s xs → ∃ b cap, e = .returned (.tuple #[.slice (some ⟨b, 0, none⟩) xs.length cap, .bool true]) ∧ ORow w' T 1 b cap xs.length (xs.map (Value.float .f32)) ∧ w0.heap.size ≤ b)
    (hn : (∀ xs, ¬ Reads hex1 Own1 s xs) → e = .returned (.tuple #[.slice none 0 0, .bool false])) : ∃ (v : Value) (B : Bool), e = .returned (.tuple #[v, .bool B]) ∧ v.oneCell' = true ∧
      (B = true → ∃ xs b cap, Reads hex1 Own1 s xs ∧ v = .slice (some ⟨b, 0, none⟩) xs.length cap ∧ ORow w' T 1 b cap xs.length (xs.map (Value.float .f32)) ∧ w0.heap.size ≤ b) ∧ (B = false → ∀ xs, ¬ Reads hex1 Own1 s xs) := by
  by_cases k : ∃ xs, Reads hex1 Own1 s xs
  · obtain ⟨xs, k⟩ := k
    obtain ⟨b, cap, he, hr, hb⟩ := hy xs k
    exact ⟨_, true, he, rfl, fun _ => ⟨xs, b, cap, k, rfl, hr, hb⟩, fun h => absurd h (by decide)⟩
  · have k' : ∀ xs, ¬ Reads hex1 Own1 s xs := fun n h => k ⟨n, h⟩
    exact ⟨_, false, hn k', rfl, fun h => absurd h (by decide), fun _ => k'⟩
theorem RetL.split {T : TypeId} {s : ByteArray} {w0 w' : World} {e : Ending} (h : RetL T s w0 e w') : ∃ (v : Value) (B : Bool), e = .returned (.tuple #[v, .bool B]) ∧ v.oneCell' = true ∧
      (B = true → ∃ ns b cap, RdInts s ns ∧ ns.length ≤ 64 ∧ v = .slice (some ⟨b, 0, none⟩) ns.length cap ∧ ORow w' T 1 b cap ns.length (ns.map (Value.int .i64)) ∧ w0.heap.size ≤ b) ∧ (B = false → ∀ a l, ¬ RdInts s [a, l]) ∧ Below w0.heap.size w0 w' := by
  by_cases k : ∃ ns, RdInts s ns ∧ ns.length ≤ 64
  · obtain ⟨ns, k, hl⟩ := k
    obtain ⟨b, cap, he, hr, hb⟩ := h.yes ns k hl
    exact ⟨_, true, he, rfl, fun _ => ⟨ns, b, cap, k, hl, rfl, hr, hb⟩, fun h => absurd h (by decide), h.below⟩
  · have k' : ∀ ns, RdInts s ns → ¬ ns.length ≤ 64 := fun n h1 h2 => k ⟨n, h1, h2⟩
    exact ⟨_, false, h.no k', rfl, fun h => absurd h (by decide), fun _ a l hr => k' _ hr (by simp), h.below⟩
theorem int_pair {ns : List Int} (h : ns.length = 2) : ∃ a l, ns = [a, l] := ⟨_, _, two_list ns h⟩
theorem spotsOf_own {xs : List Nat} (h : ∀ x ∈ xs, Own1 x) {m : Nat} (hm : xs.length = 3 * m) : ∀ p, p ∈ spotsOf xs m → can .f32 p.1 = p.1 ∧ can .f32 p.2.1 = p.2.1 ∧ can .f32 p.2.2 = p.2.2 := by
  intro p hp
  obtain ⟨i, hi, rfl⟩ := List.mem_map.1 hp
  have hi' : i < m := by simpa using hi
  have key : ∀ j, j < xs.length → can .f32 (xs.getD j 0) = xs.getD j 0 := fun j hj => by
    have : xs.getD j 0 = xs[j] := by simp [hj]
    rw [this]
    exact (h _ (List.getElem_mem hj)).2
  exact ⟨key _ (by omega), key _ (by omega), key _ (by omega)⟩
theorem okSh_some {a l : Int} {ps : List Sp} (h : okSh a l ps = true) : 0 < ps.length := by
  unfold okSh at h
  simp only [Bool.and_eq_true, decide_eq_true_eq, inB] at h
  obtain ⟨⟨⟨⟨h1, h2⟩, h3, h4⟩, h5⟩, h6⟩ := h
  have : 2 * 2 ≤ a * l := Int.mul_le_mul h1 h3 (by omega) (by omega)
  omega
/-- a row that grows by appends; the place j of block p holds its slice -/
structure PushI (S : Nat → Prop) (wb wr : World) (p : Nat) (T : TypeId) (cs : Array Value) (e : TypeId) (size : Nat) (v : Value) (n : Nat) (xs : List Value) : Prop where
  row : ORow0 wr e size v n xs
  own : OwnC wr p cs T
  vb : ∀ b, v.ownBlock = some b → (S b ∨ wb.heap.size ≤ b) ∧ b ≠ p
  ch : Ch S wb wr
theorem ORow0.set {w : World} {e : TypeId} {size n : Nat} {v : Value} {cs : List Value} (h : ORow0 w e size v n cs) (b i : Nat) (u : Value) (hb : v.ownBlock ≠ some b) : ORow0 (w.setCell ⟨b, i, none⟩ u) e size v n cs := by
  obtain ⟨q1, q2⟩ := h
  refine ⟨q1, ?_⟩
  rcases q2 with h0 | ⟨g, c, cur, hv, hl, hg, r⟩
  · exact .inl h0
  · refine .inr ⟨g, c, cur, hv, hl, ?_, r⟩
    rw [Below.heap_setCell _ _ _ _ (by intro e; apply hb; rw [hv]; simp [Value.ownBlock]; exact e)]
    exact hg
theorem ORow0.lt {w : World} {e : TypeId} {size n : Nat} {v : Value} {cs : List Value} (h : ORow0 w e size v n cs) {b : Nat} (hv : v.ownBlock = some b) : b < w.heap.size := by
  obtain ⟨q1, q2⟩ := h
  rcases q2 with ⟨rfl, _⟩ | ⟨g, c, cur, rfl, hl, hg, r⟩
  · cases hv
  · have : g = b := by simpa [Value.ownBlock] using hv
    subst this
    rcases Nat.lt_or_ge g w.heap.size with h | h
    · exact h
    · rw [Array.getElem?_eq_none h] at hg; cases hg
theorem ORow0.form {w : World} {e : TypeId} {size n : Nat} {v : Value} {cs : List Value} (h : ORow0 w e size v n cs) (hn : 0 < n) : ∃ b cap, v = .slice (some ⟨b, 0, none⟩) n cap ∧ ORow w e size b cap n cs := by
  obtain ⟨q1, q2⟩ := h
  rcases q2 with ⟨_, h0⟩ | ⟨g, c, cur, rfl, hl, hg, r⟩
  · omega
  · exact ⟨g, c, rfl, q1, .inr ⟨g, c, cur, rfl, Nat.le_refl _, hg, r⟩⟩
theorem ORow0.isSlice {w : World} {e : TypeId} {size n : Nat} {v : Value} {cs : List Value} (h : ORow0 w e size v n cs) : v.oneCell' = true := by
  obtain ⟨q1, q2⟩ := h
  rcases q2 with ⟨rfl, _⟩ | ⟨g, c, cur, rfl, _⟩ <;> rfl
/-- an append onto a row that may be nothing yet -/
theorem wpList_app0 {P : Program} {ops : Array Oper} {rest : List Oper} {o : Oper} {a : Act} {Q : Exit → Act → World → Prop} (hgd : o.guard = none) (s x : Operand) (t : TypeId)
    (ho : o.op = .call { callee := .builtin .append, args := #[s, x], argTypes := #[t, t] })
    (e : TypeId) (z : Value) (size bytes : Nat) (ht : P.underlying t = some (.slice e)) (hinfo : (P.info? e).map (fun i => (i.zero, i.size, i.bytes)) = some (some z, size, bytes)) (hzs : z.cells.size = size) (hsz : 0 < size)
    (w0 : World) (v : Value) (n : Nat) (cs : List Value) (hs : a.eval s = v) (hrow : ORow0 w0 e size v n cs)
    (ad : Addr) (m c : Nat) (news : List Value) (hx : a.eval x = .slice (some ad) m c) (hl : news.length = m * size) (hnews : ∀ j u, news[j]? = some u → w0.cell? (ad.add j) = some u) (h1 : ∀ u ∈ news, u.oneCell' = true)
    (hm : 0 < m) (hmn : n + m ≤ 1099511627776) (hby : bytes ≤ 64)
    (h : ∀ b' cap' w1, ORow w1 e size b' cap' (n + m) (cs ++ news) → (v.ownBlock = some b' ∨ b' = w0.heap.size) → b' < w1.heap.size → w0.grownBy w1 v.ownBlock → wpList P ops Q rest (a.put o.dst (.slice (some ⟨b', 0, none⟩) (n + m) cap')) w1) :
    wpList P ops Q (o :: rest) a w0 := by
  obtain ⟨i, hi, hzz⟩ := Option.map_eq_some_iff.1 hinfo
  simp only [Prod.mk.injEq] at hzz
  obtain ⟨hz, hs1, hb1⟩ := hzz
  exact wpList_append_lies w0 hgd s x t ho 0 e i z size bytes ht hi hz hs1 hb1 hzs hsz v n cs hs hrow ad m c news hx hl hnews h1 hm (by simp [maxLen]; omega)
    (Nat.le_trans (Nat.mul_le_mul_left (n + m) hby) (by omega)) (Nat.zero_le _) w0.heap.size rfl
    (fun g cap1 w1 hown hgrow hat hlt => h g cap1 w1 (ownsRow.orow hown) hat hlt hgrow)
theorem PushI.step {S : Nat → Prop} {wb wr w7 : World} {p j n m b7 c7 : Nat} {T e : TypeId} {cs : Array Value} {size : Nat} {v : Value} {xs news : List Value} {o : Obj} (h : PushI S wb wr p T cs e size v n xs) (hp : p < wb.heap.size) (hS : S p)
    (hg7 : (wr.alloc o).grownBy w7 v.ownBlock) (r7 : ORow w7 e size b7 c7 m (xs ++ news)) (hb7 : v.ownBlock = some b7 ∨ b7 = wr.heap.size + 1) :
    PushI S wb (w7.setCell ⟨p, j, none⟩ (.slice (some ⟨b7, 0, none⟩) m c7)) p T (cs.setIfInBounds j (.slice (some ⟨b7, 0, none⟩) m c7)) e size (.slice (some ⟨b7, 0, none⟩) m c7) m (xs ++ news) := by
  have z0 := h.ch.size
  have z7 : wr.heap.size + 1 ≤ w7.heap.size := by have := hg7.size; simpa using this
  have hvb : (S b7 ∨ wb.heap.size ≤ b7) ∧ b7 ≠ p := by
    rcases hb7 with h1 | h1
    · exact h.vb _ h1
    · exact ⟨.inr (by omega), by omega⟩
  have hne : ∀ c, c < wr.heap.size → v.ownBlock ≠ some c → w7.heap[c]? = wr.heap[c]? := fun c hc hv => (hg7.block c (by simp; omega) (fun e => hv e.symm)).trans (Below.heap_alloc _ _ _ hc)
  have hvo : v.ownBlock ≠ some p := fun e => (h.vb _ e).2 rfl
  have hown7 : OwnC w7 p cs T := (hne p h.own.lt hvo).trans h.own
  refine ⟨ORow0.set r7.row0 _ _ _ (by simp [Value.ownBlock]; exact hvb.2), hown7.set j _, fun b e => ?_, ?_⟩
  · have : b7 = b := by simpa [Value.ownBlock] using e
    exact this ▸ hvb
  · have c2 : Ch (fun c => v.ownBlock = some c) wr w7 := ⟨hg7.os, hg7.tape, hg7.output, by omega, hne⟩
    have c3 : Ch S wb w7 := h.ch.trans c2 (fun b hb => by
      rcases (h.vb b hb).1 with h1 | h1
      · exact .inl h1
      · exact .inr h1)
    exact c3.trans (P' := fun c => c = p) (Ch.set _ _ _ rfl) (fun b hb => .inl (hb ▸ hS))
theorem PushI.keep {S : Nat → Prop} {wb wr w7 : World} {p n : Nat} {T e : TypeId} {cs : Array Value} {size : Nat} {v : Value} {xs : List Value} {o : Obj} (h : PushI S wb wr p T cs e size v n xs) (hg7 : (wr.alloc o).grownBy w7 v.ownBlock) : OwnC w7 p cs T :=
  ((hg7.block p (by have := h.own.lt; simp; omega) (fun e => (h.vb _ e.symm).2 rfl)).trans (Below.heap_alloc _ _ _ h.own.lt)).trans h.own
theorem OwnC.set3 {w : World} {b : Nat} {c0 c1 c2 : Value} {T : TypeId} (h : OwnC w b #[c0, c1, c2] T) (u0 u1 u2 : Value) : OwnC (((w.setCell ⟨b, 0, none⟩ u0).setCell ⟨b, 1, none⟩ u1).setCell ⟨b, 2, none⟩ u2) b #[u0, u1, u2] T := (((h.set 0 u0).set 1 u1).set 2 u2).congr (by simp)
/-- a row of spots, maybe nothing yet, as a slice -/
theorem ORow0.spots0 {w : World} {T : TypeId} {v : Value} {n : Nat} {ps : List Sp} (h : ORow0 w T 3 v n (spCs ps)) (hn : n = ps.length) (hc : ∀ p, p ∈ ps → can .f32 p.1 = p.1 ∧ can .f32 p.2.1 = p.2.1 ∧ can .f32 p.2.2 = p.2.2) :
    ∃ ao c, v = .slice ao ps.length c ∧ SlP w 0 w.heap.size ao ps ∧ (0 < ps.length → ∃ b, ao = some ⟨b, 0, none⟩ ∧ v.ownBlock = some b ∧ OwnP1 w b ps) := by
  subst hn
  rcases Nat.eq_zero_or_pos ps.length with h0 | h0
  · have h' := h
    obtain ⟨q1, q2⟩ := h'
    rcases q2 with ⟨rfl, _⟩ | ⟨g, c, cur, rfl, hl, hg, r⟩
    · exact ⟨none, 0, by rw [h0], fun hp => by omega, fun hp => by omega⟩
    · exact ⟨some ⟨g, 0, none⟩, c, rfl, fun hp => by omega, fun hp => by omega⟩
  · obtain ⟨b, cap, rfl, hr⟩ := ORow0.form h h0
    have ho := OwnP1.row hr rfl
    refine ⟨some ⟨b, 0, none⟩, cap, rfl, fun hp => ?_, fun _ => ⟨b, rfl, rfl, ho⟩⟩
    obtain ⟨b', off, e, h1, h2, hh⟩ := ho.slP hc hp
    exact ⟨b', off, e, Nat.zero_le _, by have := hr.lt; omega, hh⟩
end Go.Fl

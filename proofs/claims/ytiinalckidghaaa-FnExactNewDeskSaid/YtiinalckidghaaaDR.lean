/- Rows that a call makes by appends, held in a place of its own: the desk's lists. -/
import Derived.Test.YtiinalckidghaaaDB
import Derived.Deep.RegionLaw
namespace Go.Fl
open Go.RowKit
/-- of the old blocks those of P alone turned from w to w' -/
structure Ch (P : Nat → Prop) (w w' : World) : Prop where
  os : w'.os = w.os
  tape : w'.tape = w.tape
  output : w'.output = w.output
  size : w.heap.size ≤ w'.heap.size
  block : ∀ b, b < w.heap.size → ¬ P b → w'.heap[b]? = w.heap[b]?
theorem Ch.refl (P : Nat → Prop) (w : World) : Ch P w w := ⟨rfl, rfl, rfl, Nat.le_refl _, fun _ _ _ => rfl⟩
theorem Ch.below {P : Nat → Prop} {w w' : World} (h : RowKit.Below w.heap.size w w') : Ch P w w' := ⟨h.os, h.tape, h.output, h.size, fun b hb _ => h.block b hb⟩
theorem Ch.trans {P P' : Nat → Prop} {w w1 w2 : World} (h : Ch P w w1) (k : Ch P' w1 w2) (hp : ∀ b, P' b → P b ∨ w.heap.size ≤ b) : Ch P w w2 :=
  ⟨k.os.trans h.os, k.tape.trans h.tape, k.output.trans h.output, Nat.le_trans h.size k.size, fun b hb hn => (k.block b (Nat.lt_of_lt_of_le hb h.size) (fun hq => by rcases hp b hq with h1 | h1; exact hn h1; omega)).trans (h.block b hb hn)⟩
theorem Ch.toBelow {P : Nat → Prop} {w w' : World} {B : Nat} (h : Ch P w w') (hB : B ≤ w.heap.size) (hp : ∀ b, P b → B ≤ b) : RowKit.Below B w w' :=
  ⟨h.os, h.tape, h.output, h.size, fun b hb => h.block b (by omega) (fun hq => by have := hp b hq; omega)⟩
theorem Ch.far {P : Nat → Prop} {w w' : World} {lo hi : Nat} (h : Ch P w w') (hh : hi ≤ w.heap.size) (hp : ∀ b, lo ≤ b → b < hi → ¬ P b) : Far lo hi w w' := fun b h1 h2 => h.block b (by omega) (hp b h1 h2)
theorem Ch.cell {P : Nat → Prop} {w w' : World} (h : Ch P w w') {b o : Nat} {v : Value} (hc : w.cell? ⟨b, o, none⟩ = some v) (hp : ¬ P b) : w'.cell? ⟨b, o, none⟩ = some v :=
  (World.cell?_of_block (w := w) (a := ⟨b, o, none⟩) (h.block b (World.block_lt_of_cell? w _ hc) hp)).trans hc
theorem Ch.own {P : Nat → Prop} {w w' : World} {b : Nat} {cs : Array Value} {T : TypeId} (h : Ch P w w') (hc : OwnC w b cs T) (hp : ¬ P b) : OwnC w' b cs T := (h.block b hc.lt hp).trans hc
theorem Ch.grew {P : Nat → Prop} {w w' : World} {b : Nat} (h : Grew b w w') (hp : P b) : Ch P w w' := ⟨h.os, h.tape, h.output, h.size, fun c hc hn => h.block c hc (fun e => hn (e ▸ hp))⟩
theorem Ch.set {P : Nat → Prop} (w : World) (a : Addr) (v : Value) (hp : P a.block) : Ch P w (w.setCell a v) := ⟨rfl, rfl, rfl, by simp, fun b _ hn => RowKit.Below.heap_setCell _ _ _ _ (fun e => hn (e ▸ hp))⟩
theorem Ch.drewN (P : Nat → Prop) (w : World) (n : Nat) : Ch P w (w.drewN n) := ⟨rfl, rfl, rfl, Nat.le_refl _, fun _ _ _ => rfl⟩
theorem Ch.mono {P P' : Nat → Prop} {w w' : World} (h : Ch P w w') (hp : ∀ b, P b → P' b) : Ch P' w w' := ⟨h.os, h.tape, h.output, h.size, fun b hb hn => h.block b hb (fun q => hn (hp b q))⟩
theorem ORow0.nil (w : World) (e : TypeId) (size : Nat) : ORow0 w e size (.slice none 0 0) 0 [] := ⟨by simp, .inl ⟨rfl, rfl⟩⟩
theorem ORow0.below {w w' : World} {e : TypeId} {size n : Nat} {v : Value} {cs : List Value} (h : ORow0 w e size v n cs) (hb : Below w.heap.size w w') : ORow0 w' e size v n cs := by
  obtain ⟨q1, q2⟩ := h
  refine ⟨q1, ?_⟩
  rcases q2 with h0 | ⟨g, c, cur, hv, hl, hg, r⟩
  · exact .inl h0
  · refine .inr ⟨g, c, cur, hv, hl, ?_, r⟩
    have hlt : g < w.heap.size := by
      rcases Nat.lt_or_ge g w.heap.size with h | h
      · exact h
      · rw [Array.getElem?_eq_none h] at hg; cases hg
    exact (hb.block g hlt).trans hg
theorem ORow0.set {w : World} {e : TypeId} {size n : Nat} {v : Value} {cs : List Value} (h : ORow0 w e size v n cs) (b i : Nat) (u : Value) (hb : v.ownBlock ≠ some b) : ORow0 (w.setCell ⟨b, i, none⟩ u) e size v n cs := by
  obtain ⟨q1, q2⟩ := h
  refine ⟨q1, ?_⟩
  rcases q2 with h0 | ⟨g, c, cur, hv, hl, hg, r⟩
  · exact .inl h0
  · refine .inr ⟨g, c, cur, hv, hl, ?_, r⟩
    rw [Below.heap_setCell _ _ _ _ (by intro e; apply hb; rw [hv]; simp [Value.ownBlock]; exact e)]
    exact hg
theorem ORow0.lt {w : World} {e : TypeId} {size n : Nat} {v : Value} {cs : List Value} (h : ORow0 w e size v n cs) {b : Nat} (hv : v.ownBlock = some b) : b < w.heap.size := by
  obtain ⟨q1, q2⟩ := h
  rcases q2 with ⟨rfl, _⟩ | ⟨g, c, cur, rfl, hl, hg, r⟩
  · cases hv
  · have : g = b := by simpa [Value.ownBlock] using hv
    subst this
    rcases Nat.lt_or_ge g w.heap.size with h | h
    · exact h
    · rw [Array.getElem?_eq_none h] at hg; cases hg
theorem ORow0.form {w : World} {e : TypeId} {size n : Nat} {v : Value} {cs : List Value} (h : ORow0 w e size v n cs) (hn : 0 < n) : ∃ b cap, v = .slice (some ⟨b, 0, none⟩) n cap ∧ ORow w e size b cap n cs := by
  obtain ⟨q1, q2⟩ := h
  rcases q2 with ⟨_, h0⟩ | ⟨g, c, cur, rfl, hl, hg, r⟩
  · omega
  · exact ⟨g, c, rfl, q1, .inr ⟨g, c, cur, rfl, Nat.le_refl _, hg, r⟩⟩
theorem ORow0.isSlice {w : World} {e : TypeId} {size n : Nat} {v : Value} {cs : List Value} (h : ORow0 w e size v n cs) : v.oneCell' = true := by
  obtain ⟨q1, q2⟩ := h
  rcases q2 with ⟨rfl, _⟩ | ⟨g, c, cur, rfl, _⟩ <;> rfl
/-- an append onto a row that may be nothing yet -/
theorem wpList_app0 {P : Program} {ops : Array Oper} {rest : List Oper} {o : Oper} {a : Act} {Q : Exit → Act → World → Prop} (hgd : o.guard = none) (s x : Operand) (t : TypeId)
    (ho : o.op = .call { callee := .builtin .append, args := #[s, x], argTypes := #[t, t] })
    (e : TypeId) (z : Value) (size bytes : Nat) (ht : P.underlying t = some (.slice e)) (hinfo : (P.info? e).map (fun i => (i.zero, i.size, i.bytes)) = some (some z, size, bytes)) (hzs : z.cells.size = size) (hsz : 0 < size)
    (w0 : World) (v : Value) (n : Nat) (cs : List Value) (hs : a.eval s = v) (hrow : ORow0 w0 e size v n cs)
    (ad : Addr) (m c : Nat) (news : List Value) (hx : a.eval x = .slice (some ad) m c) (hl : news.length = m * size) (hnews : ∀ j u, news[j]? = some u → w0.cell? (ad.add j) = some u) (h1 : ∀ u ∈ news, u.oneCell' = true)
    (hm : 0 < m) (hmn : n + m ≤ 1099511627776) (hby : bytes ≤ 64)
    (h : ∀ b' cap' w1, ORow w1 e size b' cap' (n + m) (cs ++ news) → (v.ownBlock = some b' ∨ b' = w0.heap.size) → b' < w1.heap.size → w0.grownBy w1 v.ownBlock → wpList P ops Q rest (a.put o.dst (.slice (some ⟨b', 0, none⟩) (n + m) cap')) w1) :
    wpList P ops Q (o :: rest) a w0 := by
  obtain ⟨i, hi, hzz⟩ := Option.map_eq_some_iff.1 hinfo
  simp only [Prod.mk.injEq] at hzz
  obtain ⟨hz, hs1, hb1⟩ := hzz
  exact wpList_append_lies w0 hgd s x t ho 0 e i z size bytes ht hi hz hs1 hb1 hzs hsz v n cs hs hrow ad m c news hx hl hnews h1 hm (by simp [maxLen]; omega)
    (Nat.le_trans (Nat.mul_le_mul_left (n + m) hby) (by omega)) (Nat.zero_le _) w0.heap.size rfl
    (fun g cap1 w1 hown hgrow hat hlt => h g cap1 w1 (ownsRow.orow hown) hat hlt hgrow)
/-- block g is the walk's own and holds the numbers xs -/
def OwnF1 (w : World) (g : Nat) (xs : List Nat) : Prop := Room w g xs.length ∧ ∀ i, i < xs.length → w.cell? ⟨g, i, none⟩ = some (.float .f32 (xs.getD i 0))
theorem OwnF1.far {w w' : World} {lo hi g : Nat} {l : List Nat} (h : OwnF1 w g l) (hf : Far lo hi w w') (h1 : lo ≤ g) (h2 : g < hi) : OwnF1 w' g l :=
  ⟨h.1.far hf h1 h2, fun i hi => (hf.cell h1 h2).trans (h.2 i hi)⟩
theorem OwnF1.row {w : World} {T : TypeId} {b cap n : Nat} {l : List Nat} (h : ORow w T 1 b cap n (l.map (Value.float .f32))) (hn : n = l.length) : OwnF1 w b l :=
  ⟨by have := h.room; rw [Nat.mul_one, hn] at this; exact this, fun i hi => by
    rw [h.cell i (by omega), List.getElem?_map, List.getElem?_eq_getElem hi, List.getD_eq_getElem?_getD, List.getElem?_eq_getElem hi]
    rfl⟩
theorem OwnF1.slF {w : World} {g c n : Nat} {xs : List Nat} (h : OwnF1 w g xs) (hn : n = xs.length) (hm : xs.length ≤ 1048576) : SlF w (.slice (some ⟨g, 0, none⟩) n c) xs := by
  subst hn
  exact .inr ⟨g, 0, c, rfl, by omega, fun i hi => by rw [Nat.zero_add]; exact h.2 i hi⟩
def spCs (ps : List Sp) : List Value := ps.flatMap fun p => [.float .f32 p.1, .float .f32 p.2.1, .float .f32 p.2.2]
theorem spCs_app (a b : List Sp) : spCs (a ++ b) = spCs a ++ spCs b := by simp [spCs]
theorem spCs_one (p : Sp) : spCs [p] = [.float .f32 p.1, .float .f32 p.2.1, .float .f32 p.2.2] := rfl
theorem spCs_len (ps : List Sp) : (spCs ps).length = ps.length * 3 := by
  induction ps with
  | nil => rfl
  | cons p ps ih =>
    rw [show spCs (p :: ps) = spCs [p] ++ spCs ps from spCs_app [p] ps, List.length_append, ih, spCs_one]
    simp; omega
theorem spCs_at (ps : List Sp) : ∀ i, i < ps.length → (spCs ps)[i * 3]? = some (.float .f32 (pAt ps i).1) ∧ (spCs ps)[i * 3 + 1]? = some (.float .f32 (pAt ps i).2.1) ∧ (spCs ps)[i * 3 + 2]? = some (.float .f32 (pAt ps i).2.2) := by
  induction ps with
  | nil => exact fun i h => absurd h (Nat.not_lt_zero _)
  | cons p ps ih =>
    intro i hi
    rw [show spCs (p :: ps) = [.float .f32 p.1, .float .f32 p.2.1, .float .f32 p.2.2] ++ spCs ps from spCs_app [p] ps]
    cases i with
    | zero => exact ⟨rfl, rfl, rfl⟩
    | succ i =>
      obtain ⟨a, b, c⟩ := ih i (by simpa using hi)
      have e : pAt (p :: ps) (i + 1) = pAt ps i := by simp [pAt]
      rw [e, List.getElem?_append_right (by simp; omega), List.getElem?_append_right (by simp; omega), List.getElem?_append_right (by simp; omega)]
      refine ⟨?_, ?_, ?_⟩
      · rw [← a]; congr 1; simp; omega
      · rw [← b]; congr 1; simp; omega
      · rw [← c]; congr 1; simp; omega
/-- block g is the walk's own and holds the spots ps -/
def OwnP1 (w : World) (g : Nat) (ps : List Sp) : Prop := Room w g (ps.length * 3) ∧ ∀ i, i < ps.length * 3 → w.cell? ⟨g, i, none⟩ = (spCs ps)[i]?
theorem OwnP1.far {w w' : World} {lo hi g : Nat} {l : List Sp} (h : OwnP1 w g l) (hf : Far lo hi w w') (h1 : lo ≤ g) (h2 : g < hi) : OwnP1 w' g l :=
  ⟨h.1.far hf h1 h2, fun i hi => (hf.cell h1 h2).trans (h.2 i hi)⟩
theorem OwnP1.row {w : World} {T : TypeId} {b cap n : Nat} {l : List Sp} (h : ORow w T 3 b cap n (spCs l)) (hn : n = l.length) : OwnP1 w b l := by
  subst hn
  exact ⟨h.room, fun i hi => h.cell i hi⟩
theorem OwnP1.slP {w : World} {g : Nat} {ps : List Sp} (h : OwnP1 w g ps) (hc : ∀ p, p ∈ ps → can .f32 p.1 = p.1 ∧ can .f32 p.2.1 = p.2.1 ∧ can .f32 p.2.2 = p.2.2) : SlP w g (g + 1) (some ⟨g, 0, none⟩) ps := fun _ => by
  refine ⟨g, 0, rfl, Nat.le_refl _, Nat.lt_succ_self _, fun i hi => ?_⟩
  obtain ⟨a, b, c⟩ := spCs_at ps i hi
  have hm : pAt ps i ∈ ps := by
    have : pAt ps i = ps[i] := by simp [pAt, hi]
    rw [this]; exact List.getElem_mem hi
  obtain ⟨e1, e2, e3⟩ := hc _ hm
  rw [Nat.zero_add]
  exact ⟨_, _, _, (h.2 _ (by omega)).trans a, (h.2 _ (by omega)).trans b, (h.2 _ (by omega)).trans c, e1, e2, e3⟩
/-- a row that grows by appends; the place j of block p holds its slice -/
structure PushI (S : Nat → Prop) (wb wr : World) (p : Nat) (T : TypeId) (cs : Array Value) (e : TypeId) (size : Nat) (v : Value) (n : Nat) (xs : List Value) : Prop where
  row : ORow0 wr e size v n xs
  own : OwnC wr p cs T
  vb : ∀ b, v.ownBlock = some b → (S b ∨ wb.heap.size ≤ b) ∧ b ≠ p
  ch : Ch S wb wr
theorem PushI.step {S : Nat → Prop} {wb wr w7 : World} {p j n m b7 c7 : Nat} {T e : TypeId} {cs : Array Value} {size : Nat} {v : Value} {xs news : List Value} {o : Obj} (h : PushI S wb wr p T cs e size v n xs) (hp : p < wb.heap.size) (hS : S p)
    (hg7 : (wr.alloc o).grownBy w7 v.ownBlock) (r7 : ORow w7 e size b7 c7 m (xs ++ news)) (hb7 : v.ownBlock = some b7 ∨ b7 = wr.heap.size + 1) :
    PushI S wb (w7.setCell ⟨p, j, none⟩ (.slice (some ⟨b7, 0, none⟩) m c7)) p T (cs.setIfInBounds j (.slice (some ⟨b7, 0, none⟩) m c7)) e size (.slice (some ⟨b7, 0, none⟩) m c7) m (xs ++ news) := by
  have z0 := h.ch.size
  have z7 : wr.heap.size + 1 ≤ w7.heap.size := by have := hg7.size; simpa using this
  have hvb : (S b7 ∨ wb.heap.size ≤ b7) ∧ b7 ≠ p := by
    rcases hb7 with h1 | h1
    · exact h.vb _ h1
    · exact ⟨.inr (by omega), by omega⟩
  have hne : ∀ c, c < wr.heap.size → v.ownBlock ≠ some c → w7.heap[c]? = wr.heap[c]? := fun c hc hv => (hg7.block c (by simp; omega) (fun e => hv e.symm)).trans (Below.heap_alloc _ _ _ hc)
  have hvo : v.ownBlock ≠ some p := fun e => (h.vb _ e).2 rfl
  have hown7 : OwnC w7 p cs T := (hne p h.own.lt hvo).trans h.own
  refine ⟨ORow0.set r7.row0 _ _ _ (by simp [Value.ownBlock]; exact hvb.2), hown7.set j _, fun b e => ?_, ?_⟩
  · have : b7 = b := by simpa [Value.ownBlock] using e
    exact this ▸ hvb
  · have c2 : Ch (fun c => v.ownBlock = some c) wr w7 := ⟨hg7.os, hg7.tape, hg7.output, by omega, hne⟩
    have c3 : Ch S wb w7 := h.ch.trans c2 (fun b hb => by
      rcases (h.vb b hb).1 with h1 | h1
      · exact .inl h1
      · exact .inr h1)
    exact c3.trans (P' := fun c => c = p) (Ch.set _ _ _ rfl) (fun b hb => .inl (hb ▸ hS))
theorem PushI.keep {S : Nat → Prop} {wb wr w7 : World} {p n : Nat} {T e : TypeId} {cs : Array Value} {size : Nat} {v : Value} {xs : List Value} {o : Obj} (h : PushI S wb wr p T cs e size v n xs) (hg7 : (wr.alloc o).grownBy w7 v.ownBlock) : OwnC w7 p cs T :=
  ((hg7.block p (by have := h.own.lt; simp; omega) (fun e => (h.vb _ e.symm).2 rfl)).trans (Below.heap_alloc _ _ _ h.own.lt)).trans h.own
/-- a result block of n cells, all set -/
theorem OwnC.set2 {w : World} {b : Nat} {c0 c1 : Value} {T : TypeId} (h : OwnC w b #[c0, c1] T) (u0 u1 : Value) : OwnC ((w.setCell ⟨b, 0, none⟩ u0).setCell ⟨b, 1, none⟩ u1) b #[u0, u1] T := ((h.set 0 u0).set 1 u1).congr (by simp)
theorem OwnC.set3 {w : World} {b : Nat} {c0 c1 c2 : Value} {T : TypeId} (h : OwnC w b #[c0, c1, c2] T) (u0 u1 u2 : Value) : OwnC (((w.setCell ⟨b, 0, none⟩ u0).setCell ⟨b, 1, none⟩ u1).setCell ⟨b, 2, none⟩ u2) b #[u0, u1, u2] T := (((h.set 0 u0).set 1 u1).set 2 u2).congr (by simp)
end Go.Fl

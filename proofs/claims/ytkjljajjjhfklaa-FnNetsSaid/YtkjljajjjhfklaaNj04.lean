/- Rows that grow by append: several elements at once. Contracts: marks on nets, and whether they are held, by the law's own functions. Contracts: the sides of a net, the reference's. -/
import Derived.Test.YtkjljajjjhfklaaNj03
import Derived.Test.YtkjljajjjhfklaaNj02
namespace Go.Fl
/-- an append of m elements -/
theorem wpList_appN {P : Program} {ops : Array Oper} {rest : List Oper} {o : Oper} {a : Act} {Q : Exit → Act → World → Prop} (hgd : o.guard = none) (s x : Operand) (t : TypeId)
    (ho : o.op = .call { callee := .builtin .append, args := #[s, x], argTypes := #[t, t] })
    (e : TypeId) (z : Value) (size bytes : Nat) (ht : P.underlying t = some (.slice e)) (hinfo : (P.info? e).map (fun i => (i.zero, i.size, i.bytes)) = some (some z, size, bytes)) (hzs : z.cells.size = size) (hsz : 0 < size)
    (w0 : World) (cells : Array Value) (e' : TypeId) (m : Nat) (hc : cells.size = m * size) (h1 : ∀ u ∈ cells.toList, u.oneCell' = true)
    (nb b cap n : Nat) (cs : List Value) (hs : a.eval s = .slice (some ⟨b, 0, none⟩) n cap) (hx : a.eval x = .slice (some ⟨nb, 0, none⟩) m m) (hnb : nb = w0.heap.size) (hm : m ≤ 1024) (hm0 : 0 < m) (hrow : ORow w0 e size b cap n cs)
    (hn : n ≤ 1099511627776) (hby : bytes ≤ 64)
    (h : ∀ b' cap' w1, ORow w1 e size b' cap' (n + m) (cs ++ cells.toList) → (b' = b ∨ w0.heap.size < b') → Grew b w0 w1 → wpList P ops Q rest (a.put o.dst (.slice (some ⟨b', 0, none⟩) (n + m) cap')) w1) :
    wpList P ops Q (o :: rest) a (w0.alloc (.cells cells e')) := by
  subst hnb
  obtain ⟨i, hi, hzz⟩ := Option.map_eq_some_iff.1 hinfo
  simp only [Prod.mk.injEq] at hzz
  obtain ⟨hz, hs1, hb1⟩ := hzz
  have hlt := hrow.lt
  have hrow' : (w0.alloc (.cells cells e')).ownsRow 0 e size (.slice (some ⟨b, 0, none⟩) n cap) n cs := by
    have := hrow.far (lo := 0) (hi := w0.heap.size) ((Far.refl _ _ w0).alloc (.cells cells e') (Nat.le_refl _)) (Nat.zero_le _) hlt
    obtain ⟨q1, q2⟩ := this
    refine ⟨q1, ?_⟩
    rcases q2 with ⟨q3, _⟩ | ⟨g, c, cur, hv, _, r⟩
    · cases q3
    · exact .inr ⟨g, c, cur, hv, Nat.zero_le _, r⟩
  refine wpList_append_lies (w0.alloc (.cells cells e')) hgd s x t ho 0 e i z size bytes ht hi hz hs1 hb1 hzs hsz _ n cs hs hrow' ⟨w0.heap.size, 0, none⟩ m m cells.toList hx (by simp [hc]) (World.news_of_block (heap_alloc_new w0 _)) h1 (by omega) (by simp [maxLen]; omega)
    (Nat.le_trans (Nat.mul_le_mul_left (n + m) hby) (by omega)) (Nat.zero_le _) (w0.heap.size + 1) (by simp) ?_
  intro g cap1 w1 hown hgrow hat _
  have hg : g = b ∨ g = w0.heap.size + 1 := by
    rcases hat with hat | hat
    · exact .inl (by simpa [Value.ownBlock] using hat.symm)
    · exact .inr hat
  refine h g cap1 w1 ?_ (hg.imp id fun h => by omega) ?_
  · obtain ⟨q1, q2⟩ := hown
    refine ⟨q1, ?_⟩
    rcases q2 with ⟨q3, _⟩ | ⟨g2, c, cur, hv, _, r⟩
    · cases q3
    · refine .inr ⟨g2, c, cur, hv, ?_, r⟩
      have : g2 = g := by simpa using (Value.slice.inj hv).1.symm
      omega
  · refine ⟨hgrow.os, hgrow.tape, hgrow.output, Nat.le_trans (by simp) hgrow.size, fun c hc hne => ?_⟩
    rw [hgrow.block c (by simp; omega) (by simp [Value.ownBlock, hne])]
    exact RowKit.Below.heap_alloc _ _ _ hc
end Go.Fl

namespace Go.Fl

/-- from w to w' only cells of blocks in S turned -/
structure Only (S : Nat → Prop) (w w' : World) : Prop where
  os : w'.os = w.os
  tape : w'.tape = w.tape
  output : w'.output = w.output
  size : w'.heap.size = w.heap.size
  block : ∀ c, ¬ S c → w'.heap[c]? = w.heap[c]?
  room : ∀ c n, Room w c n → Room w' c n
theorem Only.refl (S : Nat → Prop) (w : World) : Only S w w := ⟨rfl, rfl, rfl, rfl, fun _ _ => rfl, fun _ _ h => h⟩
theorem Only.trans {S : Nat → Prop} {a b c : World} (h : Only S a b) (k : Only S b c) : Only S a c :=
  ⟨k.os.trans h.os, k.tape.trans h.tape, k.output.trans h.output, k.size.trans h.size, fun i hi => (k.block i hi).trans (h.block i hi), fun i n hr => k.room i n (h.room i n hr)⟩
theorem Only.mono {S S' : Nat → Prop} {w w' : World} (h : Only S w w') (hs : ∀ c, S c → S' c) : Only S' w w' :=
  ⟨h.os, h.tape, h.output, h.size, fun c hc => h.block c (fun q => hc (hs c q)), h.room⟩
theorem Only.set {S : Nat → Prop} {a w : World} (h : Only S a w) (b i : Nat) (v : Value) (hb : S b) : Only S a (w.setCell ⟨b, i, none⟩ v) :=
  h.trans ⟨rfl, rfl, rfl, by simp, fun c hc => RowKit.Below.heap_setCell _ _ _ _ (fun e => hc (e ▸ hb)), fun c n hr => hr.set _ _ _⟩
theorem Only.far {S : Nat → Prop} {w w' : World} (h : Only S w w') {lo hi : Nat} (hs : ∀ c, S c → c < lo ∨ hi ≤ c) : Far lo hi w w' := fun c h1 h2 => h.block c (fun q => by have := hs c q; omega)
theorem Only.below {S : Nat → Prop} {w w' : World} (h : Only S w w') {B : Nat} (hs : ∀ c, S c → B ≤ c) : RowKit.Below B w w' :=
  ⟨h.os, h.tape, h.output, Nat.le_of_eq h.size.symm, fun c hc => h.block c (fun q => by have := hs c q; omega)⟩
theorem Only.cell {S : Nat → Prop} {w w' : World} (h : Only S w w') {b o : Nat} (hb : ¬ S b) : w'.cell? ⟨b, o, none⟩ = w.cell? ⟨b, o, none⟩ := World.cell?_of_block (w := w) (a := ⟨b, o, none⟩) (h.block b hb)

/-- from w to w' only blocks from lo up to hi turned, and new ones came -/
structure Kept (lo hi : Nat) (w w' : World) : Prop where
  os : w'.os = w.os
  tape : w'.tape = w.tape
  output : w'.output = w.output
  size : w.heap.size ≤ w'.heap.size
  block : ∀ c, c < w.heap.size → ¬ (lo ≤ c ∧ c < hi) → w'.heap[c]? = w.heap[c]?
theorem Kept.of_below {w w' : World} (h : RowKit.Below w.heap.size w w') (lo hi : Nat) : Kept lo hi w w' := ⟨h.os, h.tape, h.output, h.size, fun c hc _ => h.block c hc⟩
theorem Kept.trans {lo hi : Nat} {a b c : World} (h : Kept lo hi a b) (k : Kept lo hi b c) : Kept lo hi a c :=
  ⟨k.os.trans h.os, k.tape.trans h.tape, k.output.trans h.output, Nat.le_trans h.size k.size, fun i h1 h2 => (k.block i (Nat.lt_of_lt_of_le h1 h.size) h2).trans (h.block i h1 h2)⟩
theorem Only.kept {S : Nat → Prop} {w w' : World} (h : Only S w w') {lo hi : Nat} (hs : ∀ c, S c → lo ≤ c ∧ c < hi) : Kept lo hi w w' :=
  ⟨h.os, h.tape, h.output, Nat.le_of_eq h.size.symm, fun c _ hc => h.block c fun q => hc (hs c q)⟩
theorem Kept.far {lo hi a b : Nat} {w w' : World} (h : Kept lo hi w w') (hb : b ≤ w.heap.size) (hd : b ≤ lo ∨ hi ≤ a) : Far a b w w' := fun c h1 h2 => h.block c (by omega) (by omega)
theorem Kept.below {lo hi B : Nat} {w w' : World} (h : Kept lo hi w w') (hb : B ≤ w.heap.size) (hd : B ≤ lo) : RowKit.Below B w w' :=
  ⟨h.os, h.tape, h.output, h.size, fun c hc => h.block c (by omega) (by omega)⟩

/-- n numbers from k on -/
def marks (k : Int) (n : Nat) : List Int := (List.range n).map fun (i : Nat) => k + i
theorem marks_len (k : Int) (n : Nat) : (marks k n).length = n := by simp [marks]
theorem marks_at {k : Int} {n i : Nat} (h : i < n) : iAt (marks k n) i = k + i := by simp [marks, iAt, h]
end Go.Fl
namespace Go.Proofs.Ytkjljajjjhfklaa
open Go.RowKit Go.Fl

/-- how many corners the first j facets have -/
def sumTo (fs : List (List Int)) : Nat → Nat
  | 0 => 0
  | j + 1 => sumTo fs j + (fAt fs j).length
theorem sumTo_le {fs : List (List Int)} (h : ∀ i, i < fs.length → (fAt fs i).length ≤ 1048576) : ∀ j, j ≤ fs.length → sumTo fs j ≤ j * 1048576
  | 0, _ => by simp [sumTo]
  | j + 1, hj => by
    have h1 := sumTo_le h j (by omega)
    have h2 := h j (by omega)
    simp only [sumTo]; omega

/-- the blocks of the first j facets -/
def Corn (g : Nat → Nat) (j : Nat) (c : Nat) : Prop := ∃ i, i < j ∧ c = g i

end Go.Proofs.Ytkjljajjjhfklaa

namespace Go.Fl
/-- what h tells of all corners of the first j facets, in order -/
def colTo (h : Nat → Nat → Int) (fs : List (List Int)) : Nat → List Int
  | 0 => []
  | j + 1 => colTo h fs j ++ (List.range (fAt fs j).length).map (h j)
def colPre (h : Nat → Nat → Int) (fs : List (List Int)) (j k : Nat) : List Int := colTo h fs j ++ (List.range k).map (h j)
theorem colPre_zero (h : Nat → Nat → Int) (fs : List (List Int)) (j : Nat) : colPre h fs j 0 = colTo h fs j := by simp [colPre]
theorem colPre_full (h : Nat → Nat → Int) (fs : List (List Int)) (j : Nat) : colPre h fs j (fAt fs j).length = colTo h fs (j + 1) := rfl
theorem colPre_succ (h : Nat → Nat → Int) (fs : List (List Int)) (j k : Nat) : colPre h fs j (k + 1) = colPre h fs j k ++ [h j k] := by simp [colPre, List.range_succ]
/-- the first corner of a side, its second one, its facet -/
def sideA (fs : List (List Int)) (j k : Nat) : Int := iAt (fAt fs j) k
def sideB (fs : List (List Int)) (j k : Nat) : Int := iAt (fAt fs j) ((k + 1) % (fAt fs j).length)
def sideF (j _k : Nat) : Int := j
end Go.Fl
namespace Go.Proofs.Ytkjljajjjhfklaa
open Go.RowKit Go.Fl
theorem colTo_len (h : Nat → Nat → Int) (fs : List (List Int)) : ∀ j, (colTo h fs j).length = sumTo fs j
  | 0 => rfl
  | j + 1 => by simp [colTo, sumTo, colTo_len h fs j]
theorem colPre_len (h : Nat → Nat → Int) (fs : List (List Int)) (j k : Nat) : (colPre h fs j k).length = sumTo fs j + k := by simp [colPre, colTo_len]
theorem infoI : (Try.prog.info? 3).map (fun i => (i.zero, i.size, i.bytes)) = some (some (.int .i64 0), 1, 8) := by kernel_rfl

/-- three rows of the walk's own -/
structure Rows3 (w wr : World) (b1 c1 b2 c2 b3 c3 n : Nat) (xs ys zs : List Int) : Prop where
  r1 : ORow wr 2 1 b1 c1 n (xs.map (Value.int .i64))
  r2 : ORow wr 2 1 b2 c2 n (ys.map (Value.int .i64))
  r3 : ORow wr 3 1 b3 c3 n (zs.map (Value.int .i64))
  low : w.heap.size ≤ b1 ∧ w.heap.size ≤ b2 ∧ w.heap.size ≤ b3
  apart : b1 ≠ b2 ∧ b1 ≠ b3 ∧ b2 ≠ b3
  below : Below w.heap.size w wr

theorem Rows3.step {w wr w1 w2 w3 : World} {b1 c1 b2 c2 b3 c3 n d1 d2 d3 e1 e2 e3 : Nat} {xs ys zs : List Int} {x y z : Int} (h : Rows3 w wr b1 c1 b2 c2 b3 c3 n xs ys zs)
    (h1 : ORow w1 2 1 d1 e1 (n + 1) (xs.map (Value.int .i64) ++ #[Value.int .i64 x].toList)) (g1 : d1 = b1 ∨ wr.heap.size < d1) (r1 : Grew b1 wr w1)
    (h2 : ORow w2 2 1 d2 e2 (n + 1) (ys.map (Value.int .i64) ++ #[Value.int .i64 y].toList)) (g2 : d2 = b2 ∨ w1.heap.size < d2) (r2 : Grew b2 w1 w2)
    (h3 : ORow w3 3 1 d3 e3 (n + 1) (zs.map (Value.int .i64) ++ #[Value.int .i64 z].toList)) (g3 : d3 = b3 ∨ w2.heap.size < d3) (r3 : Grew b3 w2 w3) :
    Rows3 w w3 d1 e1 d2 e2 d3 e3 (n + 1) (xs ++ [x]) (ys ++ [y]) (zs ++ [z]) := by
  have l1 := h.r1.lt
  have l2 := h.r2.lt
  have l3 := h.r3.lt
  have m1 := h1.lt
  have m2 := h2.lt
  have m3 := h3.lt
  have s1 := r1.size
  have s2 := r2.size
  have s3 := r3.size
  have hl := h.low
  have ha := h.apart
  have hs := h.below.size
  refine ⟨?_, ?_, ?_, by omega, by omega, ((h.below.trans (r1.below hl.1 hs)).trans (r2.below hl.2.1 (by omega))).trans (r3.below hl.2.2 (by omega))⟩
  · rw [List.map_append]; exact (h1.grew r2 (by omega)).grew r3 (by omega)
  · rw [List.map_append]; exact h2.grew r3 (by omega)
  · rw [List.map_append]; exact h3

end Go.Proofs.Ytkjljajjjhfklaa

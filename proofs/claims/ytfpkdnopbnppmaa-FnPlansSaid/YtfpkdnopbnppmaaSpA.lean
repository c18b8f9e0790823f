/- SpeedPlan: the base: lists of numbers, their copies, marks on them; what is reckoned, as plain functions. -/
import Derived.Test.YtfpkdnopbnppmaaLf
import Derived.Test.YtfpkdnopbnppmaaSqrt
import Derived.Test.YtfpkdnopbnppmaaSprd
import Derived.Test.YtfpkdnopbnppmaaShelf
import Derived.Deep.OwnRows
import Derived.Deep.QuietTactic
import Derived.BigQuiet
import Derived.Deep.RegionHeld3
import Derived.Deep.RegionLaw
import Derived.Laws.CopyOwn
namespace Go.Fl
open Go.RowKit
/-- from w to w' only cells of blocks in S turned -/
structure Only (S : Nat → Prop) (w w' : World) : Prop where
  os : w'.os = w.os
  tape : w'.tape = w.tape
  output : w'.output = w.output
  size : w'.heap.size = w.heap.size
  block : ∀ c, ¬ S c → w'.heap[c]? = w.heap[c]?
  room : ∀ c n, Room w c n → Room w' c n
theorem Only.refl (S : Nat → Prop) (w : World) : Only S w w := ⟨rfl, rfl, rfl, rfl, fun _ _ => rfl, fun _ _ h => h⟩
theorem Only.trans {S : Nat → Prop} {a b c : World} (h : Only S a b) (k : Only S b c) : Only S a c :=
  ⟨k.os.trans h.os, k.tape.trans h.tape, k.output.trans h.output, k.size.trans h.size, fun i hi => (k.block i hi).trans (h.block i hi), fun i n hr => k.room i n (h.room i n hr)⟩
theorem Only.mono {S S' : Nat → Prop} {w w' : World} (h : Only S w w') (hs : ∀ c, S c → S' c) : Only S' w w' :=
  ⟨h.os, h.tape, h.output, h.size, fun c hc => h.block c (fun q => hc (hs c q)), h.room⟩
theorem Only.set {S : Nat → Prop} {a w : World} (h : Only S a w) (b i : Nat) (v : Value) (hb : S b) : Only S a (w.setCell ⟨b, i, none⟩ v) :=
  h.trans ⟨rfl, rfl, rfl, by simp, fun c hc => RowKit.Below.heap_setCell _ _ _ _ (fun e => hc (e ▸ hb)), fun c n hr => hr.set _ _ _⟩
theorem Only.drewN {S : Nat → Prop} {a w : World} (h : Only S a w) (n : Nat) : Only S a (w.drewN n) := ⟨h.os, h.tape, h.output, h.size, h.block, h.room⟩
theorem Only.far {S : Nat → Prop} {w w' : World} (h : Only S w w') {lo hi : Nat} (hs : ∀ c, S c → c < lo ∨ hi ≤ c) : Far lo hi w w' := fun c h1 h2 => h.block c (fun q => by have := hs c q; omega)
theorem Only.below {S : Nat → Prop} {w w' : World} (h : Only S w w') {B : Nat} (hs : ∀ c, S c → B ≤ c) : RowKit.Below B w w' :=
  ⟨h.os, h.tape, h.output, Nat.le_of_eq h.size.symm, fun c hc => h.block c (fun q => by have := hs c q; omega)⟩
theorem Only.cell {S : Nat → Prop} {w w' : World} (h : Only S w w') {b o : Nat} (hb : ¬ S b) : w'.cell? ⟨b, o, none⟩ = w.cell? ⟨b, o, none⟩ := World.cell?_of_block (w := w) (a := ⟨b, o, none⟩) (h.block b hb)
/-- from w to w' only blocks from lo up to hi turned, and new ones came -/
structure Kept (lo hi : Nat) (w w' : World) : Prop where
  os : w'.os = w.os
  tape : w'.tape = w.tape
  output : w'.output = w.output
  size : w.heap.size ≤ w'.heap.size
  block : ∀ c, c < w.heap.size → ¬ (lo ≤ c ∧ c < hi) → w'.heap[c]? = w.heap[c]?
  room : ∀ c n, c < w.heap.size → Room w c n → Room w' c n
theorem Room.same {w w' : World} {c n : Nat} (h : w'.heap[c]? = w.heap[c]?) (hr : Room w c n) : Room w' c n := hr.far (lo := c) (hi := c + 1) (fun _ h1 h2 => (Nat.le_antisymm (Nat.lt_succ_iff.1 h2) h1) ▸ h) (Nat.le_refl _) (Nat.lt_succ_self _)
theorem Kept.of_below {w w' : World} (h : RowKit.Below w.heap.size w w') (lo hi : Nat) : Kept lo hi w w' := ⟨h.os, h.tape, h.output, h.size, fun c hc _ => h.block c hc, fun c _ hc hr => Room.same (h.block c hc) hr⟩
theorem Kept.trans {lo hi : Nat} {a b c : World} (h : Kept lo hi a b) (k : Kept lo hi b c) : Kept lo hi a c :=
  ⟨k.os.trans h.os, k.tape.trans h.tape, k.output.trans h.output, Nat.le_trans h.size k.size, fun i h1 h2 => (k.block i (Nat.lt_of_lt_of_le h1 h.size) h2).trans (h.block i h1 h2), fun i n h1 hr => k.room i n (Nat.lt_of_lt_of_le h1 h.size) (h.room i n h1 hr)⟩
theorem Only.kept {S : Nat → Prop} {w w' : World} (h : Only S w w') {lo hi : Nat} (hs : ∀ c, S c → lo ≤ c ∧ c < hi) : Kept lo hi w w' :=
  ⟨h.os, h.tape, h.output, Nat.le_of_eq h.size.symm, fun c _ hc => h.block c fun q => hc (hs c q), fun c n _ hr => h.room c n hr⟩
theorem Kept.mono {lo hi lo' hi' : Nat} {w w' : World} (h : Kept lo hi w w') (h1 : lo' ≤ lo) (h2 : hi ≤ hi') : Kept lo' hi' w w' := ⟨h.os, h.tape, h.output, h.size, fun c hc hn => h.block c hc (by omega), h.room⟩
theorem Kept.far {lo hi a b : Nat} {w w' : World} (h : Kept lo hi w w') (hb : b ≤ w.heap.size) (hd : b ≤ lo ∨ hi ≤ a) : Far a b w w' := fun c h1 h2 => h.block c (by omega) (by omega)
theorem Kept.below {lo hi B : Nat} {w w' : World} (h : Kept lo hi w w') (hb : B ≤ w.heap.size) (hd : B ≤ lo) : RowKit.Below B w w' :=
  ⟨h.os, h.tape, h.output, h.size, fun c hc => h.block c (by omega) (by omega)⟩
/-- of the old blocks those of P alone turned from w to w' -/
structure Ch (P : Nat → Prop) (w w' : World) : Prop where
  os : w'.os = w.os
  tape : w'.tape = w.tape
  output : w'.output = w.output
  size : w.heap.size ≤ w'.heap.size
  block : ∀ b, b < w.heap.size → ¬ P b → w'.heap[b]? = w.heap[b]?
theorem Ch.refl (P : Nat → Prop) (w : World) : Ch P w w := ⟨rfl, rfl, rfl, Nat.le_refl _, fun _ _ _ => rfl⟩
theorem Ch.below {P : Nat → Prop} {w w' : World} (h : RowKit.Below w.heap.size w w') : Ch P w w' := ⟨h.os, h.tape, h.output, h.size, fun b hb _ => h.block b hb⟩
theorem Ch.trans {P P' : Nat → Prop} {w w1 w2 : World} (h : Ch P w w1) (k : Ch P' w1 w2) (hp : ∀ b, P' b → P b ∨ w.heap.size ≤ b) : Ch P w w2 :=
  ⟨k.os.trans h.os, k.tape.trans h.tape, k.output.trans h.output, Nat.le_trans h.size k.size, fun b hb hn => (k.block b (Nat.lt_of_lt_of_le hb h.size) (fun hq => by rcases hp b hq with h1 | h1; exact hn h1; omega)).trans (h.block b hb hn)⟩
theorem Ch.toBelow {P : Nat → Prop} {w w' : World} {B : Nat} (h : Ch P w w') (hB : B ≤ w.heap.size) (hp : ∀ b, P b → B ≤ b) : RowKit.Below B w w' :=
  ⟨h.os, h.tape, h.output, h.size, fun b hb => h.block b (by omega) (fun hq => by have := hp b hq; omega)⟩
theorem Ch.far {P : Nat → Prop} {w w' : World} {lo hi : Nat} (h : Ch P w w') (hh : hi ≤ w.heap.size) (hp : ∀ b, lo ≤ b → b < hi → ¬ P b) : Far lo hi w w' := fun b h1 h2 => h.block b (by omega) (hp b h1 h2)
theorem Ch.cell {P : Nat → Prop} {w w' : World} (h : Ch P w w') {b o : Nat} {v : Value} (hc : w.cell? ⟨b, o, none⟩ = some v) (hp : ¬ P b) : w'.cell? ⟨b, o, none⟩ = some v :=
  (World.cell?_of_block (w := w) (a := ⟨b, o, none⟩) (h.block b (World.block_lt_of_cell? w _ hc) hp)).trans hc
theorem Ch.own {P : Nat → Prop} {w w' : World} {b : Nat} {cs : Array Value} {T : TypeId} (h : Ch P w w') (hc : OwnC w b cs T) (hp : ¬ P b) : OwnC w' b cs T := (h.block b hc.lt hp).trans hc
theorem Ch.grew {P : Nat → Prop} {w w' : World} {b : Nat} (h : Grew b w w') (hp : P b) : Ch P w w' := ⟨h.os, h.tape, h.output, h.size, fun c hc hn => h.block c hc (fun e => hn (e ▸ hp))⟩
theorem Ch.set {P : Nat → Prop} (w : World) (a : Addr) (v : Value) (hp : P a.block) : Ch P w (w.setCell a v) := ⟨rfl, rfl, rfl, by simp, fun b _ hn => RowKit.Below.heap_setCell _ _ _ _ (fun e => hn (e ▸ hp))⟩
theorem Ch.drewN (P : Nat → Prop) (w : World) (n : Nat) : Ch P w (w.drewN n) := ⟨rfl, rfl, rfl, Nat.le_refl _, fun _ _ _ => rfl⟩
theorem Ch.mono {P P' : Nat → Prop} {w w' : World} (h : Ch P w w') (hp : ∀ b, P b → P' b) : Ch P' w w' := ⟨h.os, h.tape, h.output, h.size, fun b hb hn => h.block b hb (fun q => hn (hp b q))⟩
theorem ORow0.nil (w : World) (e : TypeId) (size : Nat) : ORow0 w e size (.slice none 0 0) 0 [] := ⟨by simp, .inl ⟨rfl, rfl⟩⟩
theorem ORow0.below {w w' : World} {e : TypeId} {size n : Nat} {v : Value} {cs : List Value} (h : ORow0 w e size v n cs) (hb : Below w.heap.size w w') : ORow0 w' e size v n cs := by
  obtain ⟨q1, q2⟩ := h
  refine ⟨q1, ?_⟩
  rcases q2 with h0 | ⟨g, c, cur, hv, hl, hg, r⟩
  · exact .inl h0
  · refine .inr ⟨g, c, cur, hv, hl, ?_, r⟩
    have hlt : g < w.heap.size := by
      rcases Nat.lt_or_ge g w.heap.size with h | h
      · exact h
      · rw [Array.getElem?_eq_none h] at hg; cases hg
    exact (hb.block g hlt).trans hg
theorem ORow0.set {w : World} {e : TypeId} {size n : Nat} {v : Value} {cs : List Value} (h : ORow0 w e size v n cs) (b i : Nat) (u : Value) (hb : v.ownBlock ≠ some b) : ORow0 (w.setCell ⟨b, i, none⟩ u) e size v n cs := by
  obtain ⟨q1, q2⟩ := h
  refine ⟨q1, ?_⟩
  rcases q2 with h0 | ⟨g, c, cur, hv, hl, hg, r⟩
  · exact .inl h0
  · refine .inr ⟨g, c, cur, hv, hl, ?_, r⟩
    rw [Below.heap_setCell _ _ _ _ (by intro e; apply hb; rw [hv]; simp [Value.ownBlock]; exact e)]
    exact hg
theorem ORow0.lt {w : World} {e : TypeId} {size n : Nat} {v : Value} {cs : List Value} (h : ORow0 w e size v n cs) {b : Nat} (hv : v.ownBlock = some b) : b < w.heap.size := by
  obtain ⟨q1, q2⟩ := h
  rcases q2 with ⟨rfl, _⟩ | ⟨g, c, cur, rfl, hl, hg, r⟩
  · cases hv
  · have : g = b := by simpa [Value.ownBlock] using hv
    subst this
    rcases Nat.lt_or_ge g w.heap.size with h | h
    · exact h
    · rw [Array.getElem?_eq_none h] at hg; cases hg
theorem ORow0.form {w : World} {e : TypeId} {size n : Nat} {v : Value} {cs : List Value} (h : ORow0 w e size v n cs) (hn : 0 < n) : ∃ b cap, v = .slice (some ⟨b, 0, none⟩) n cap ∧ ORow w e size b cap n cs := by
  obtain ⟨q1, q2⟩ := h
  rcases q2 with ⟨_, h0⟩ | ⟨g, c, cur, rfl, hl, hg, r⟩
  · omega
  · exact ⟨g, c, rfl, q1, .inr ⟨g, c, cur, rfl, Nat.le_refl _, hg, r⟩⟩
theorem ORow0.isSlice {w : World} {e : TypeId} {size n : Nat} {v : Value} {cs : List Value} (h : ORow0 w e size v n cs) : v.oneCell' = true := by
  obtain ⟨q1, q2⟩ := h
  rcases q2 with ⟨rfl, _⟩ | ⟨g, c, cur, rfl, _⟩ <;> rfl
/-- an append onto a row that may be nothing yet -/
theorem wpList_app0 {P : Program} {ops : Array Oper} {rest : List Oper} {o : Oper} {a : Act} {Q : Exit → Act → World → Prop} (hgd : o.guard = none) (s x : Operand) (t : TypeId)
    (ho : o.op = .call { callee := .builtin .append, args := #[s, x], argTypes := #[t, t] })
    (e : TypeId) (z : Value) (size bytes : Nat) (ht : P.underlying t = some (.slice e)) (hinfo : (P.info? e).map (fun i => (i.zero, i.size, i.bytes)) = some (some z, size, bytes)) (hzs : z.cells.size = size) (hsz : 0 < size)
    (w0 : World) (v : Value) (n : Nat) (cs : List Value) (hs : a.eval s = v) (hrow : ORow0 w0 e size v n cs)
    (ad : Addr) (m c : Nat) (news : List Value) (hx : a.eval x = .slice (some ad) m c) (hl : news.length = m * size) (hnews : ∀ j u, news[j]? = some u → w0.cell? (ad.add j) = some u) (h1 : ∀ u ∈ news, u.oneCell' = true)
    (hm : 0 < m) (hmn : n + m ≤ 1099511627776) (hby : bytes ≤ 64)
    (h : ∀ b' cap' w1, ORow w1 e size b' cap' (n + m) (cs ++ news) → (v.ownBlock = some b' ∨ b' = w0.heap.size) → b' < w1.heap.size → w0.grownBy w1 v.ownBlock → wpList P ops Q rest (a.put o.dst (.slice (some ⟨b', 0, none⟩) (n + m) cap')) w1) :
    wpList P ops Q (o :: rest) a w0 := by
  obtain ⟨i, hi, hzz⟩ := Option.map_eq_some_iff.1 hinfo
  simp only [Prod.mk.injEq] at hzz
  obtain ⟨hz, hs1, hb1⟩ := hzz
  exact wpList_append_lies w0 hgd s x t ho 0 e i z size bytes ht hi hz hs1 hb1 hzs hsz v n cs hs hrow ad m c news hx hl hnews h1 hm (by simp [maxLen]; omega)
    (Nat.le_trans (Nat.mul_le_mul_left (n + m) hby) (by omega)) (Nat.zero_le _) w0.heap.size rfl
    (fun g cap1 w1 hown hgrow hat hlt => h g cap1 w1 (ownsRow.orow hown) hat hlt hgrow)
theorem nearest_self (n : Int) : FloatKind.f32.format.order (floatOfInt .f32 n) (floatOfInt .f32 n) = some .eq := order_self (show nanB .f32 (floatOfInt .f32 n) = false from write_not_nan (k := .f32) (d := .number (n < 0) n.natAbs 0) rfl)
theorem nearest_ne (n : Int) : (FloatKind.f32.format.order (floatOfInt .f32 n) (floatOfInt .f32 n) != some .eq) = false := by rw [nearest_self]; rfl
/-- a slice of n numbers at ao holds the marks from k on -/
def SlK (w : World) (lo hi : Nat) (ao : Option Addr) (n : Nat) (k : Int) : Prop :=
  0 < n → ∃ b, ao = some ⟨b, 0, none⟩ ∧ lo ≤ b ∧ b < hi ∧ ∀ i : Nat, i < n → w.cell? ⟨b, i, none⟩ = some (.float .f32 (floatOfInt .f32 (k + (i : Int))))
theorem SlK.far {w w' : World} {lo hi : Nat} {ao : Option Addr} {n : Nat} {k : Int} (h : SlK w lo hi ao n k) (hf : Far lo hi w w') : SlK w' lo hi ao n k := fun hp => by
  obtain ⟨b, e, h1, h2, hc⟩ := h hp
  exact ⟨b, e, h1, h2, fun i hi => (hf.cell h1 h2).trans (hc i hi)⟩
theorem SlF.cells {w : World} {v : Value} {xs : List Nat} (h : SlF w v xs) (h0 : 0 < xs.length) : ∃ b off cap, v = .slice (some ⟨b, off, none⟩) xs.length cap ∧ ∀ i, i < xs.length → w.cell? ⟨b, off + i, none⟩ = some (.float .f32 (xs.getD i 0)) := by
  rcases h with ⟨_, rfl⟩ | ⟨b, off, cap, h1, _, h3⟩
  · exact absurd h0 (Nat.lt_irrefl 0)
  · exact ⟨b, off, cap, h1, h3⟩
theorem SlF.below {w w' : World} {v : Value} {xs : List Nat} (h : SlF w v xs) (hb : Below w.heap.size w w') : SlF w' v xs := by
  rcases h with h | ⟨b, off, cap, h1, h2, hc⟩
  · exact .inl h
  · exact .inr ⟨b, off, cap, h1, h2, fun i hi => keep_cell hb (hc i hi)⟩
/-- block g is the walk's own and holds the numbers xs -/
def OwnF1 (w : World) (g : Nat) (xs : List Nat) : Prop := Room w g xs.length ∧ ∀ i, i < xs.length → w.cell? ⟨g, i, none⟩ = some (.float .f32 (xs.getD i 0))
theorem OwnF1.far {w w' : World} {lo hi g : Nat} {l : List Nat} (h : OwnF1 w g l) (hf : Far lo hi w w') (h1 : lo ≤ g) (h2 : g < hi) : OwnF1 w' g l :=
  ⟨h.1.far hf h1 h2, fun i hi => (hf.cell h1 h2).trans (h.2 i hi)⟩
theorem OwnF1.row {w : World} {T : TypeId} {b cap n : Nat} {l : List Nat} (h : ORow w T 1 b cap n (l.map (Value.float .f32))) (hn : n = l.length) : OwnF1 w b l :=
  ⟨by have := h.room; rw [Nat.mul_one, hn] at this; exact this, fun i hi => by
    rw [h.cell i (by omega), List.getElem?_map, List.getElem?_eq_getElem hi, List.getD_eq_getElem?_getD, List.getElem?_eq_getElem hi]
    rfl⟩
theorem OwnF1.slF {w : World} {g c n : Nat} {xs : List Nat} (h : OwnF1 w g xs) (hn : n = xs.length) (hm : xs.length ≤ 1048576) : SlF w (.slice (some ⟨g, 0, none⟩) n c) xs := by
  subst hn
  exact .inr ⟨g, 0, c, rfl, by omega, fun i hi => by rw [Nat.zero_add]; exact h.2 i hi⟩
theorem OwnF1.below {w w' : World} {B g : Nat} {l : List Nat} (h : OwnF1 w g l) (hb : Below B w w') (hg : g < B) : OwnF1 w' g l := h.far (Far.below hb (Nat.le_refl B)) (Nat.zero_le _) hg

/-- a block of cells, filled: a row -/
theorem ORow.full (w : World) (e : TypeId) (cs : Array Value) (hm : cs.size ≤ 1048576) : ORow (w.alloc (.cells cs e)) e 1 w.heap.size cs.size cs.size cs.toList :=
  ⟨by simp, .inr ⟨w.heap.size, cs.size, cs, rfl, Nat.le_refl _, heap_alloc_new w _, Nat.le_refl _, by simp [maxLen]; omega, by simp, by rw [Nat.mul_one]; exact List.take_of_length_le (by simp)⟩⟩
/-! ### what is reckoned -/
/-- how fast a tool may be behind a piece -/
def spR (rise l x : Nat) : Nat := fsqrt (fadd (fmul x x) (fmul (fmul 1073741824 rise) l))
def nF (V : List Nat) (i : Nat) : Nat := V.getD i 0
/-- what both begin with -/
def spV0 (n most : Nat) : List Nat := 0 :: (List.replicate (n - 1) most ++ [0])
/-- forward over the first k pieces -/
def spUp (ls : List Nat) (rise : Nat) (V : List Nat) : Nat → List Nat
  | 0 => V
  | k + 1 => if flt (spR rise (nF ls k) (nF (spUp ls rise V k) k)) (nF (spUp ls rise V k) (k + 1)) then (spUp ls rise V k).set (k + 1) (spR rise (nF ls k) (nF (spUp ls rise V k) k)) else spUp ls rise V k
/-- back over the last k pieces of n -/
def spDn (ls : List Nat) (rise n : Nat) (V : List Nat) : Nat → List Nat
  | 0 => V
  | k + 1 => if flt (spR rise (nF ls (n - 1 - k)) (nF (spDn ls rise n V k) (n - 1 - k + 1))) (nF (spDn ls rise n V k) (n - 1 - k)) then (spDn ls rise n V k).set (n - 1 - k) (spR rise (nF ls (n - 1 - k)) (nF (spDn ls rise n V k) (n - 1 - k + 1))) else spDn ls rise n V k
def spSum (ls V : List Nat) : Nat → Nat
  | 0 => 0
  | k + 1 => fadd (spSum ls V k) (fdiv (fmul 1073741824 (nF ls k)) (fadd (nF V k) (nF V (k + 1))))
def spGo (V : List Nat) (k : Nat) : Prop := ∀ i, i < k → fgt (fadd (nF V i) (nF V (i + 1))) 0 = true
def spEnd (ls : List Nat) (most rise : Nat) : List Nat := spDn ls rise ls.length (spUp ls rise (spV0 ls.length most) ls.length) ls.length
def spOk (ls : List Nat) (most rise : Nat) : Prop := 1 ≤ ls.length ∧ ls.length ≤ 64 ∧ ls.all above = true ∧ above most = true ∧ above rise = true ∧ spGo (spEnd ls most rise) ls.length ∧ (spEnd ls most rise).all fin = true ∧ fin (spSum ls (spEnd ls most rise) ls.length) = true
theorem spV0_len {n : Nat} (most : Nat) (h : 1 ≤ n) : (spV0 n most).length = n + 1 := by simp only [spV0, List.length_cons, List.length_append, List.length_replicate, List.length_nil]; omega
theorem spUp_len (ls : List Nat) (rise : Nat) (V : List Nat) : ∀ k, (spUp ls rise V k).length = V.length
  | 0 => rfl
  | k + 1 => by
    rw [spUp]; split
    · rw [List.length_set]; exact spUp_len ls rise V k
    · exact spUp_len ls rise V k
theorem spDn_len (ls : List Nat) (rise n : Nat) (V : List Nat) : ∀ k, (spDn ls rise n V k).length = V.length
  | 0 => rfl
  | k + 1 => by
    rw [spDn]; split
    · rw [List.length_set]; exact spDn_len ls rise n V k
    · exact spDn_len ls rise n V k
theorem spEnd_len {ls : List Nat} (most rise : Nat) (h : 1 ≤ ls.length) : (spEnd ls most rise).length = ls.length + 1 := by
  unfold spEnd; rw [spDn_len, spUp_len, spV0_len most h]

/-- block b is the walk's own and holds numbers that stand for V -/
def RowV (w : World) (b : Nat) (V : List Nat) : Prop := Room w b V.length ∧ ∀ i, i < V.length → ∃ x, w.cell? ⟨b, i, none⟩ = some (.float .f32 x) ∧ F32 x (nF V i)
theorem RowV.far {w w' : World} {lo hi g : Nat} {l : List Nat} (h : RowV w g l) (hf : Far lo hi w w') (h1 : lo ≤ g) (h2 : g < hi) : RowV w' g l :=
  ⟨h.1.far hf h1 h2, fun i hi => by obtain ⟨x, a, b⟩ := h.2 i hi; exact ⟨x, (hf.cell h1 h2).trans a, b⟩⟩
theorem RowV.below {w w' : World} {B g : Nat} {l : List Nat} (h : RowV w g l) (hb : Below B w w') (hg : g < B) : RowV w' g l := h.far (Far.below hb (Nat.le_refl B)) (Nat.zero_le _) hg
theorem RowV.drewN {w : World} {g : Nat} {l : List Nat} (h : RowV w g l) (n : Nat) : RowV (w.drewN n) g l := h
theorem RowV.set {w : World} {b i r y : Nat} {V : List Nat} (h : RowV w b V) (hi : i < V.length) (hr : F32 r y) : RowV (w.setCell ⟨b, i, none⟩ (.float .f32 r)) b (V.set i y) := by
  refine ⟨by rw [List.length_set]; exact h.1.set _ _ _, fun j hj => ?_⟩
  rw [List.length_set] at hj
  by_cases e : j = i
  · subst e
    obtain ⟨x, a, _⟩ := h.2 j hj
    exact ⟨r, World.cell?_setCell_same _ _ _ a, by simpa [nF, hi] using hr⟩
  · obtain ⟨x, a, c⟩ := h.2 j hj
    refine ⟨x, (World.cell?_setCell_other _ _ _ _ (by first | (simp; done) | (simp; omega))).trans a, ?_⟩
    have : nF (V.set i y) j = nF V j := by simp [nF, List.getD_eq_getElem?_getD, List.getElem?_set, show ¬ i = j by omega]
    rw [this]; exact c
/-- what is finite has its own bits -/
theorem F32.fin_eq {x v : Nat} (h : F32 x v) (hv : fin v = true) : x = v := by
  unfold F32 at h
  cases hn : nanB .f32 x
  · rw [can_of_not hn] at h; exact h
  · rw [can_of_nan hn] at h
    subst h
    exact absurd hv (by decide +kernel)
theorem RowV.own {w : World} {b : Nat} {V : List Nat} (h : RowV w b V) (hf : V.all fin = true) : OwnF1 w b V :=
  ⟨h.1, fun i hi => by
    obtain ⟨x, a, c⟩ := h.2 i hi
    have hv : fin (nF V i) = true := by
      have := List.all_eq_true.1 hf _ (List.getElem_mem hi)
      have e : nF V i = V[i] := by simp [nF, hi]
      rw [e]; exact this
    rw [a, F32.fin_eq c hv]; rfl⟩
/-- numbers that are read: any bits -/
def RdF (w : World) (lo hi : Nat) (a : Option Addr) (bs : List Nat) : Prop := 0 < bs.length → ∃ b off, a = some ⟨b, off, none⟩ ∧ lo ≤ b ∧ b < hi ∧ ∀ i, i < bs.length → w.cell? ⟨b, off + i, none⟩ = some (.float .f32 (nF bs i))
theorem RdF.far {w w' : World} {lo hi : Nat} {a : Option Addr} {l : List Nat} (h : RdF w lo hi a l) (hf : Far lo hi w w') : RdF w' lo hi a l := fun hp => by
  obtain ⟨b, off, rfl, h1, h2, hc⟩ := h hp
  exact ⟨b, off, rfl, h1, h2, fun i hi => (hf.cell h1 h2).trans (hc i hi)⟩
end Go.Fl
namespace Go.Proofs.Ytfpkdnopbnppmaa
open Go.RowKit Go.Fl

theorem infoF : (Try.prog.info? 26).map (fun i => (i.zero, i.size, i.bytes)) = some (some (.float .f32 0), 1, 4) := by kernel_rfl
/-- k numbers x, then zeros, n in all -/
def repCs (x k n : Nat) : List Value := List.replicate k (.float .f32 x) ++ List.replicate (n - k) (.float .f32 0)
theorem repCs_len (x : Nat) {k n : Nat} (h : k ≤ n) : (repCs x k n).length = n := by simp [repCs]; omega
theorem repCs_zero (x n : Nat) : repCs x 0 n = List.replicate n (.float .f32 0) := by simp [repCs]
theorem splice_len {α : Type} (L : List α) (off : Nat) (cs : List α) (h : off + cs.length ≤ L.length) : (splice L off cs).length = L.length := by
  simp [splice]; omega
theorem repCs_splice (x : Nat) {k m n : Nat} (h : k + m ≤ n) : splice (repCs x k n) k (List.replicate m (.float .f32 x)) = repCs x (k + m) n := by
  unfold splice repCs
  rw [List.take_append_of_le_length (by simp), List.take_of_length_le (by simp), List.drop_append, List.drop_eq_nil_of_le (by simp)]
  simp only [List.length_replicate, List.nil_append, List.drop_replicate]
  rw [← List.append_assoc, List.replicate_append_replicate, show n - k - (k + m - k) = n - (k + m) by omega]
theorem repCs_at (x : Nat) {k n i : Nat} (h : i < k) : (repCs x k n)[i]? = some (.float .f32 x) := by
  unfold repCs
  rw [List.getElem?_append_left (by simpa using h)]
  simp [h]
set_option maxHeartbeats 1000000 in
set_option maxRecDepth 100000 in
theorem repF (g c x n : Nat) (h1 : 1 ≤ n) (hn : n ≤ 1000) (w : World) (hc : w.cell? ⟨g, 0, none⟩ = some (.float .f32 x)) :
    Calls Try.prog 12 #[.slice (some ⟨g, 0, none⟩) 1 c, .int .i64 (n : Nat)] w fun e w' => (∃ b, e = .returned (.slice (some ⟨b, 0, none⟩) n n) ∧ b = w.heap.size ∧ b < w'.heap.size ∧ OwnC w' b (repCs x n n).toArray 26) ∧ Below w.heap.size w w' := by
  have hmk := run_make_row' (P := Try.prog) 24 26 (.float .f32 0) 4 Try.underlying24 infoF rfl .i64 .i64 n (by omega) (by omega)
  have n0 : (0 : Int) ≤ (n : Int) := by omega
  have n1 : (n : Int) ≤ 1000 := by omega
  go_enter Try.func12, Try.ntmps12
  have hM : ∀ w, Calls Try.prog 24 #[.int .u64 1, .int .u64 (n : Nat)] w fun e w' => e = .returned (.tuple #[.int .u64 0, .int .u64 (n : Nat)]) ∧ w' = w := fun w => by
    have h := Try.bits_Mul 1 n (by omega) (by omega) w
    rw [Nat.one_mul, Nat.div_eq_of_lt (by omega), Nat.mod_eq_of_lt (by omega)] at h
    exact h
  have HM := Lib.hid hM
  clear hM
  have hgl := World.block_lt_of_cell? w _ hc
  have HC := Lib.hid hc
  have hsz : (Try.prog.info? 26).map (·.size) = some 1 := by kernel_rfl
  have HSZ := Lib.hid hsz
  have hrow0 : (w.alloc (.cells (madeCells #[.float .f32 0] n) 26)).heap[w.heap.size]? = some (.cells (repCs x 0 n).toArray 26 (0, 0)) := by
    have e : madeCells #[.float .f32 0] n = (repCs x 0 n).toArray := by
      rw [repCs_zero, ← toList_madeCells_one]
    rw [e]; exact heap_alloc_new w _
  have HR0 := Lib.hid hrow0
  have hsrc0 : ∀ j u, [Value.float .f32 x][j]? = some u → (w.alloc (.cells (madeCells #[.float .f32 0] n) 26)).cell? ((⟨g, 0, none⟩ : Addr).add j) = some u := fun j u hu => by
    have hj : j = 0 := by
      have := (List.getElem?_eq_some_iff.1 hu).1
      simp at this; omega
    subst hj
    have hadd : (⟨g, 0, none⟩ : Addr).add 0 = ⟨g, 0, none⟩ := by unfold Addr.add; split <;> simp_all
    rw [hadd, ← hu]
    exact (World.cell?_of_block (w := w) (a := ⟨g, 0, none⟩) (Below.heap_alloc _ _ _ hgl)).trans HC.out
  have HS0 := Lib.hid hsrc0
  clear hc hrow0 hsrc0 hsz
  go_wp2_with (first
    | (go_at_call 24; refine (HM.out _).mono ?_; rintro e w1 ⟨rfl, rfl⟩)
    | (refine wpList_copy_splice rfl (.tmp 31) (.tmp 32) 24 24 rfl 26 Try.underlying24 HSZ.out (some ⟨_, 0, none⟩) (some ⟨g, 0, none⟩) n n 1 c rfl rfl _ 0 (repCs x 0 n) 26 HR0.out [.float .f32 x] (show 1 = Nat.min 1 n from (Nat.min_eq_left h1).symm) (fun _ => ⟨rfl, ⟨g, 0, none⟩, rfl, HS0.out⟩) (by rw [repCs_len x (Nat.zero_le _)]; simpa using h1) (by simp [Value.oneCell']) _ _ (Below.alloc (Below.refl _ _) (Nat.le_refl _) _) (Nat.le_refl _) ?_; intro w2 hg2 hb2))
  have hg2' : w2.heap[w1.heap.size]? = some (.cells (repCs x 1 n).toArray 26 (0, 0)) := by
    have := repCs_splice x (k := 0) (m := 1) (n := n) (by omega)
    rw [Nat.zero_add] at this
    have h := hg2.out
    rw [show [Value.float .f32 x] = List.replicate 1 (.float .f32 x) from rfl, this] at h
    exact h
  have HG2 := Lib.hid hg2'
  have HB2 := Lib.hid hb2
  have z2 := hb2.size
  clear hg2 hg2' hb2 hmk HS0 HR0
  go_loopw [8] (fun i wr => ∃ k : Nat, 1 ≤ k ∧ k ≤ n ∧ i = .int .i64 k ∧ Hid (wr.heap[w1.heap.size]? = some (.cells (repCs x k n).toArray 26 (0, 0))) ∧ Hid (Below w1.heap.size w1 wr)) (fun i _ => n - (intOf i).toNat)
  case atStart => exact ⟨1, by omega, h1, rfl, HG2, HB2⟩
  case round =>
    obtain ⟨k, hk1, hk, rfl, HG, HB⟩ := hrel
    by_cases hlt : k < n
    · have k0 : (0 : Int) ≤ (k : Int) := by omega
      have k1 : (k : Int) < (n : Int) := by omega
      have k2 : (k : Int) ≤ (n : Int) := by omega
      have hnk : ¬ n = k := by omega
      obtain ⟨m, hm⟩ : ∃ m, m = Nat.min k (n - k) := ⟨_, rfl⟩
      have hm1 : 1 ≤ m := by rw [hm]; exact Nat.le_min.2 ⟨hk1, by omega⟩
      have hm2 : k + m ≤ n := by have := Nat.min_le_right k (n - k); have e : m = min k (n - k) := hm; omega
      have HM2 := Lib.hid hm
      have hsrc : ∀ j u, (List.replicate m (Value.float .f32 x))[j]? = some u → wr.cell? ((⟨w1.heap.size, 0, none⟩ : Addr).add j) = some u := fun j u hu => by
        have hj : j < m := by
          have := (List.getElem?_eq_some_iff.1 hu).1
          simpa using this
        have hadd : (⟨w1.heap.size, 0, none⟩ : Addr).add j = ⟨w1.heap.size, j, none⟩ := by unfold Addr.add; split <;> simp_all
        have hmk : m ≤ k := by have e : m = min k (n - k) := HM2.out; omega
        rw [hadd]
        simp only [World.cell?, HG.out, List.getElem?_toArray]
        rw [repCs_at x (show j < k by omega), ← hu]
        simp [hj]
      have HS := Lib.hid hsrc
      have HRL := Lib.hid (repCs_len x hk)
      clear hsrc hm
      go_wp2_with fail
      have HGD := Lib.hid (show wr.drew.heap[w1.heap.size]? = some (.cells (repCs x k n).toArray 26 (0, 0)) from HG.out)
      have HBD := Lib.hid (HB.out.drew)
      have HSD := Lib.hid (show ∀ j u, (List.replicate m (Value.float .f32 x))[j]? = some u → wr.drew.cell? ((⟨w1.heap.size, 0, none⟩ : Addr).add j) = some u from HS.out)
      go_region_law (refine step_copy_splice rfl (.tmp 41) (.tmp 44) 24 24 rfl 26 Try.underlying24 HSZ.out (some ⟨w1.heap.size, k, none⟩) (some ⟨w1.heap.size, 0, none⟩) (n - k) (n - k) k n (by simp [Act.eval, Act.put]) (by simp [Act.eval, Act.put]) w1.heap.size k (repCs x k n) 26 HGD.out (List.replicate m (.float .f32 x)) (by rw [List.length_replicate]; exact HM2.out) (fun _ => ⟨rfl, ⟨w1.heap.size, 0, none⟩, rfl, HSD.out⟩) (by rw [HRL.out]; simpa using hm2) (by intro v hv; rw [List.mem_replicate] at hv; rw [hv.2]; rfl) w1.heap.size w1 HBD.out (Nat.le_refl _) ?_; intro w4 hg4 hb4)
      all_goals
        have hlm : (List.replicate m (Value.float .f32 x)).length = m := List.length_replicate
        have hg4' := hg4.out
        rw [repCs_splice x hm2] at hg4'
        simp only [List.getElem_toArray, List.getElem_cons_succ, List.getElem_cons_zero, Act.put, List.setIfInBounds_toArray, List.set_cons_succ, List.set_cons_zero]
        have hw : IntKind.i64.wrap ((k : Int) + (m : Int)) = ((k + m : Nat) : Int) := by rw [IntKind.wrap_i64]; omega
        rw [hw]
        go_roundw
        case rel => exact ⟨_, _, _, _, _, _, _, _, _, _, _, _, _, _, ⟨k + m, by omega, hm2, rfl, Lib.hid hg4', Lib.hid hb4⟩, rfl⟩
        case measure =>
          show n - (intOf (.int .i64 ((k + m : Nat) : Int))).toNat < n - (intOf (.int .i64 ((k : Nat) : Int))).toNat
          simp only [intOf, Int.toNat_natCast]
          omega
    · have hkk : k = n := by omega
      subst hkk
      go_wp2_with fail
      go_ret
      exact ⟨⟨_, rfl, rfl, HB.out.size |> (fun h => by have := (Array.getElem?_eq_some_iff.1 HG.out).1; omega), HG.out⟩, HB.out⟩
theorem OwnF1.rep {w : World} {b x n : Nat} {T : TypeId} (h : OwnC w b (repCs x n n).toArray T) : OwnF1 w b (List.replicate n x) := by
  refine ⟨⟨_, T, h, by simp [repCs]⟩, fun i hi => ?_⟩
  simp only [List.length_replicate] at hi
  rw [h.cell]
  rw [List.getElem?_toArray, repCs_at x hi]
  simp [hi]
theorem quiet_of2 {P : Program} {f : FuncId} {args : Array Value} {w : World} {q n : Nat} {v : Value}
    (h : Calls P f args (w.drewN (q + n)) fun e w' => e = .returned v ∧ ∃ m, w' = (w.drewN (q + n)).drewN m) : Calls P f args (w.drewN (q + n)) fun e w'' => e = .returned v ∧ ∃ m, w'' = w.drewN (q + m) :=
  h.mono fun _ _ ⟨he, m, hm⟩ => ⟨he, n + m, by rw [hm, World.drewN_drewN, Nat.add_assoc]⟩
end Go.Proofs.Ytfpkdnopbnppmaa

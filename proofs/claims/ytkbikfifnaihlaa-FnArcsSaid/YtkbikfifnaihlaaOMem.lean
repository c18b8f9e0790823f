/- Loops that a call makes: one row of slices, each slice a row of its own. -/
import Derived.Test.YtkbikfifnaihlaaOVal
import Derived.Test.YtkbikfifnaihlaaOApp
namespace Go.Fl
open Go.RowKit
/-- block g is the walk's own and holds the numbers l -/
def OwnC1 (w : World) (g : Nat) (l : List Cx) : Prop := Room w g l.length ∧ ∀ i, i < l.length → w.cell? ⟨g, i, none⟩ = some (cV (cAt l i))
theorem OwnC1.far {w w' : World} {lo hi g : Nat} {l : List Cx} (h : OwnC1 w g l) (hf : Far lo hi w w') (h1 : lo ≤ g) (h2 : g < hi) : OwnC1 w' g l :=
  ⟨h.1.far hf h1 h2, fun i hi => (hf.cell h1 h2).trans (h.2 i hi)⟩
theorem OwnC1.row {w : World} {T : TypeId} {b cap n : Nat} {l : List Cx} (h : ORow w T 1 b cap n (l.map cV)) (hn : n = l.length) : OwnC1 w b l :=
  ⟨by have := h.room; rw [Nat.mul_one, hn] at this; exact this, fun i hi => by
    rw [h.cell i (by omega), List.getElem?_map, List.getElem?_eq_getElem hi, cAt, List.getD_eq_getElem?_getD, List.getElem?_eq_getElem hi]
    rfl⟩
def hdrs (ls : List (List Cx)) (g c : Nat → Nat) (n : Nat) : List Value := (List.range n).map fun i => Value.slice (some ⟨g i, 0, none⟩) (lpAt ls i).length (c i)
/-- a slice of loops that the walk makes: nil, or a row of its own; all blocks lie from base up to top -/
def LsAt (w : World) (T : TypeId) (base top : Nat) (ao : Option Addr) (cap : Nat) (ls : List (List Cx)) : Prop :=
  (ls = [] ∧ ao = none ∧ cap = 0) ∨ ∃ b g c, ao = some ⟨b, 0, none⟩ ∧ base ≤ b ∧ b < top ∧ ORow w T 1 b cap ls.length (hdrs ls g c ls.length) ∧
    ∀ i, i < ls.length → base ≤ g i ∧ g i < top ∧ g i ≠ b ∧ OwnC1 w (g i) (lpAt ls i) ∧ ∀ j, j < i → g j ≠ g i
theorem LsAt.nil (w : World) (T : TypeId) (base top : Nat) : LsAt w T base top none 0 [] := .inl ⟨rfl, rfl, rfl⟩
theorem LsAt.far {w w' : World} {T : TypeId} {base top cap : Nat} {ao : Option Addr} {ls : List (List Cx)} (h : LsAt w T base top ao cap ls) (hf : Far base top w w') : LsAt w' T base top ao cap ls := by
  rcases h with h | ⟨b, g, c, rfl, h1, h2, h3, h4⟩
  · exact .inl h
  · exact .inr ⟨b, g, c, rfl, h1, h2, h3.far hf h1 h2, fun i hi => by
      obtain ⟨a1, a2, a3, a4, a5⟩ := h4 i hi
      exact ⟨a1, a2, a3, a4.far hf a1 a2, a5⟩⟩
theorem LsAt.mono {w : World} {T : TypeId} {base top top' cap : Nat} {ao : Option Addr} {ls : List (List Cx)} (h : LsAt w T base top ao cap ls) (ht : top ≤ top') : LsAt w T base top' ao cap ls := by
  rcases h with h | ⟨b, g, c, rfl, h1, h2, h3, h4⟩
  · exact .inl h
  · exact .inr ⟨b, g, c, rfl, h1, by omega, h3, fun i hi => by
      obtain ⟨a1, a2, a3, a4, a5⟩ := h4 i hi
      exact ⟨a1, by omega, a3, a4, a5⟩⟩
theorem lpAt_app (ls : List (List Cx)) (l : List Cx) {i : Nat} (hi : i < ls.length) : lpAt (ls ++ [l]) i = lpAt ls i := by
  simp [lpAt, List.getElem?_append_left hi]
theorem lpAt_last (ls : List (List Cx)) (l : List Cx) : lpAt (ls ++ [l]) ls.length = l := by simp [lpAt]
theorem hdrs_app (ls : List (List Cx)) (l : List Cx) (g c : Nat → Nat) (gl cl : Nat) : hdrs (ls ++ [l]) (fun i => if i = ls.length then gl else g i) (fun i => if i = ls.length then cl else c i) (ls.length + 1) = hdrs ls g c ls.length ++ [.slice (some ⟨gl, 0, none⟩) l.length cl] := by
  unfold hdrs
  rw [List.range_succ, List.map_append]
  congr 1
  · refine List.map_congr_left fun i hi => ?_
    have : i < ls.length := List.mem_range.1 hi
    have hne : i ≠ ls.length := by omega
    simp only [if_neg hne, lpAt_app ls l this]
  · simp [lpAt_last]
/-- the append of one more loop -/
theorem wpList_appL {P : Program} {ops : Array Oper} {rest : List Oper} {o : Oper} {a : Act} {Q : Exit → Act → World → Prop} (hgd : o.guard = none) (s x : Operand) (t : TypeId)
    (ho : o.op = .call { callee := .builtin .append, args := #[s, x], argTypes := #[t, t] })
    (e : TypeId) (z : Value) (bytes : Nat) (ht : P.underlying t = some (.slice e)) (hinfo : (P.info? e).map (fun i => (i.zero, i.size, i.bytes)) = some (some z, 1, bytes)) (hzs : z.cells.size = 1) (hby : bytes ≤ 64)
    (w0 : World) (base top : Nat) (ao : Option Addr) (cap n : Nat) (ls : List (List Cx)) (gl cl m nb : Nat) (l : List Cx) (hs : a.eval s = .slice ao n cap) (hn : n = ls.length) (hx : a.eval x = .slice (some ⟨nb, 0, none⟩) 1 1) (hnb : nb = w0.heap.size)
    (hL : LsAt w0 e base top ao cap ls) (hl : OwnC1 w0 gl l) (hm : m = l.length) (hg : top ≤ gl) (hbt : base ≤ top) (hgl : gl < w0.heap.size) (htop : top ≤ w0.heap.size) (hlen : ls.length ≤ 1000)
    (h : ∀ ao' cap' w1, LsAt w1 e base w1.heap.size ao' cap' (ls ++ [l]) → RowKit.Below base w0 w1 → w0.heap.size ≤ w1.heap.size → wpList P ops Q rest (a.put o.dst (.slice ao' (n + 1) cap')) w1) :
    wpList P ops Q (o :: rest) a (w0.alloc (.cells #[.slice (some ⟨gl, 0, none⟩) m cl] e)) := by
  subst hnb hn hm
  obtain ⟨i, hi, hzz⟩ := Option.map_eq_some_iff.1 hinfo
  simp only [Prod.mk.injEq] at hzz
  obtain ⟨hz, hs1, hb1⟩ := hzz
  have hal : Below w0.heap.size w0 (w0.alloc (.cells #[.slice (some ⟨gl, 0, none⟩) l.length cl] e)) := Below.alloc (Below.refl _ _) (Nat.le_refl _) _
  have hcell : ∀ (j : Nat) u, [Value.slice (some ⟨gl, 0, none⟩) l.length cl][j]? = some u → (w0.alloc (.cells #[.slice (some ⟨gl, 0, none⟩) l.length cl] e)).cell? ((⟨w0.heap.size, 0, none⟩ : Addr).add j) = some u := World.news_of_block (heap_alloc_new w0 _)
  rcases hL with ⟨rfl, rfl, rfl⟩ | ⟨b, g, c, rfl, h1, h2, h3, h4⟩
  · refine wpList_append_lies (w0.alloc (.cells #[.slice (some ⟨gl, 0, none⟩) l.length cl] e)) hgd s x t ho base e i z 1 bytes ht hi hz hs1 hb1 hzs (by decide) _ 0 [] hs (World.ownsRow_nil _ _ _ _) ⟨w0.heap.size, 0, none⟩ 1 1 [.slice (some ⟨gl, 0, none⟩) l.length cl] hx rfl hcell (by simp [Value.oneCell']) (by decide) (by simp [maxLen]) (by omega) (by simp; omega) _ rfl ?_
    intro b' cap1 w1 hown hgrow hat hlt
    obtain ⟨hr, hb'⟩ := orow_of hown
    have hbel : Below w0.heap.size w0 w1 := hal.trans ⟨hgrow.os, hgrow.tape, hgrow.output, Nat.le_trans (by simp) hgrow.size, fun k hk => hgrow.block k (by simp; omega) (by simp [Value.ownBlock])⟩
    have hb0 : b' = w0.heap.size + 1 := by
      rcases hat with hat | hat
      · simp [Value.ownBlock] at hat
      · simpa using hat
    refine h _ cap1 w1 (.inr ⟨b', fun _ => gl, fun _ => cl, rfl, hb', hlt, ?_, fun i hi => ?_⟩) (hbel.mono (by omega)) hbel.size
    · have e1 : hdrs ([] ++ [l]) (fun _ => gl) (fun _ => cl) ([] ++ [l]).length = [] ++ [.slice (some ⟨gl, 0, none⟩) l.length cl] := by simp [hdrs, lpAt]
      rw [e1]; exact hr
    · have hi0 : i = 0 := by simpa using hi
      subst hi0
      show base ≤ gl ∧ gl < w1.heap.size ∧ gl ≠ b' ∧ OwnC1 w1 gl l ∧ ∀ j, j < 0 → gl ≠ gl
      refine ⟨by omega, Nat.lt_of_lt_of_le hgl hbel.size, by omega, ?_, fun j hj => absurd hj (Nat.not_lt_zero _)⟩
      exact hl.far (Far.below hbel (Nat.le_refl _)) (Nat.zero_le _) hgl
  · refine wpList_append_lies (w0.alloc (.cells #[.slice (some ⟨gl, 0, none⟩) l.length cl] e)) hgd s x t ho base e i z 1 bytes ht hi hz hs1 hb1 hzs (by decide) _ ls.length _ hs (orow_base (h3.below hal h3.lt) h1) ⟨w0.heap.size, 0, none⟩ 1 1 [.slice (some ⟨gl, 0, none⟩) l.length cl] hx rfl hcell (by simp [Value.oneCell']) (by decide) (by simp [maxLen]; omega) (Nat.le_trans (Nat.mul_le_mul_left (ls.length + 1) hby) (by omega)) (by simp; omega) _ rfl ?_
    intro b' cap1 w1 hown hgrow hat hlt
    obtain ⟨hr, hb'⟩ := orow_of hown
    have hG : Grew b (w0.alloc (.cells #[.slice (some ⟨gl, 0, none⟩) l.length cl] e)) w1 := grew_of hgrow
    have hsz : w0.heap.size + 1 ≤ w1.heap.size := by have := hG.size; simpa using this
    have hkeep : ∀ k, k < w0.heap.size → k ≠ b → w1.heap[k]? = w0.heap[k]? := fun k hk hne => (hG.block k (by simp; omega) hne).trans (hal.block k hk)
    have hb0 : b' = b ∨ b' = w0.heap.size + 1 := by
      rcases hat with hat | hat
      · exact .inl (by simpa [Value.ownBlock] using hat.symm)
      · exact .inr (by simpa using hat)
    have hfar : ∀ k, k < w0.heap.size → k ≠ b → Far k (k + 1) w0 w1 := fun k hk hne q hq1 hq2 => by
      have : q = k := by omega
      subst this; exact hkeep q hk hne
    refine h _ cap1 w1 (.inr ⟨b', fun i => if i = ls.length then gl else g i, fun i => if i = ls.length then cl else c i, rfl, hb', hlt, ?_, fun i hi => ?_⟩) ⟨hG.os.trans hal.os, hG.tape.trans hal.tape, hG.output.trans hal.output, by omega, fun k hk => hkeep k (by omega) (by omega)⟩ (by omega)
    · have e1 : (ls ++ [l]).length = ls.length + 1 := by simp
      rw [e1, hdrs_app]; exact hr
    · have hi' : i < ls.length + 1 := by simpa using hi
      by_cases hil : i = ls.length
      · subst hil
        rw [lpAt_last]
        simp only [if_true]
        refine ⟨by omega, by omega, by omega, hl.far (hfar gl hgl (by omega)) (Nat.le_refl _) (Nat.lt_succ_self _), fun j hj => ?_⟩
        rw [if_neg (by omega)]
        have := (h4 j hj).2.1
        omega
      · have hi2 : i < ls.length := by omega
        obtain ⟨a1, a2, a3, a4, a5⟩ := h4 i hi2
        rw [lpAt_app ls l hi2]
        simp only [if_neg hil]
        refine ⟨a1, by omega, by omega, a4.far (hfar (g i) (by omega) a3) (Nat.le_refl _) (Nat.lt_succ_self _), fun j hj => ?_⟩
        rw [if_neg (by omega)]
        exact a5 j hj
end Go.Fl

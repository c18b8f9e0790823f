/- The append of a loop within a region that draws its order. -/
import Derived.Test.YtkbikfifnaihlaaOMem
import Derived.Test.YtkbikfifnaihlaaOApp
namespace Go.Fl
open Go.RowKit
/-- the append of one more loop -/
theorem wp_appL {P : Program} {o : Oper} {a : Act} {K : Act → World → Prop} {Q : Exit → Act → World → Prop} (s x : Operand) (t : TypeId)
    (ho : o.op = .call { callee := .builtin .append, args := #[s, x], argTypes := #[t, t] })
    (e : TypeId) (z : Value) (bytes : Nat) (ht : P.underlying t = some (.slice e)) (hinfo : (P.info? e).map (fun i => (i.zero, i.size, i.bytes)) = some (some z, 1, bytes)) (hzs : z.cells.size = 1) (hby : bytes ≤ 64)
    (w0 : World) (base top : Nat) (ao : Option Addr) (cap n : Nat) (ls : List (List Cx)) (gl cl m nb : Nat) (l : List Cx) (hs : a.eval s = .slice ao n cap) (hn : n = ls.length) (hx : a.eval x = .slice (some ⟨nb, 0, none⟩) 1 1) (hnb : nb = w0.heap.size)
    (hL : LsAt w0 e base top ao cap ls) (hl : OwnC1 w0 gl l) (hm : m = l.length) (hg : top ≤ gl) (hbt : base ≤ top) (hgl : gl < w0.heap.size) (htop : top ≤ w0.heap.size) (hlen : ls.length ≤ 1000)
    (h : ∀ ao' cap' w1, LsAt w1 e base w1.heap.size ao' cap' (ls ++ [l]) → RowKit.Below base w0 w1 → w0.heap.size ≤ w1.heap.size → K (a.put o.dst (.slice ao' (n + 1) cap')) w1) :
    o.wp P a (w0.alloc (.cells #[.slice (some ⟨gl, 0, none⟩) m cl] e)) K Q := by
  subst hnb hn hm
  obtain ⟨i, hi, hzz⟩ := Option.map_eq_some_iff.1 hinfo
  simp only [Prod.mk.injEq] at hzz
  obtain ⟨hz, hs1, hb1⟩ := hzz
  have hal : Below w0.heap.size w0 (w0.alloc (.cells #[.slice (some ⟨gl, 0, none⟩) l.length cl] e)) := Below.alloc (Below.refl _ _) (Nat.le_refl _) _
  have hcell : ∀ (j : Nat) u, [Value.slice (some ⟨gl, 0, none⟩) l.length cl][j]? = some u → (w0.alloc (.cells #[.slice (some ⟨gl, 0, none⟩) l.length cl] e)).cell? ((⟨w0.heap.size, 0, none⟩ : Addr).add j) = some u := World.news_of_block (heap_alloc_new w0 _)
  rcases hL with ⟨rfl, rfl, rfl⟩ | ⟨b, g, c, rfl, h1, h2, h3, h4⟩
  · refine wp_append_lies (w0.alloc (.cells #[.slice (some ⟨gl, 0, none⟩) l.length cl] e)) s x t ho base e i z 1 bytes ht hi hz hs1 hb1 hzs (by decide) _ 0 [] hs (World.ownsRow_nil _ _ _ _) ⟨w0.heap.size, 0, none⟩ 1 1 [.slice (some ⟨gl, 0, none⟩) l.length cl] hx rfl hcell (by simp [Value.oneCell']) (by decide) (by simp [maxLen]) (by omega) (by simp; omega) _ rfl ?_
    intro b' cap1 w1 hown hgrow hat hlt
    obtain ⟨hr, hb'⟩ := orow_of hown
    have hbel : Below w0.heap.size w0 w1 := hal.trans ⟨hgrow.os, hgrow.tape, hgrow.output, Nat.le_trans (by simp) hgrow.size, fun k hk => hgrow.block k (by simp; omega) (by simp [Value.ownBlock])⟩
    have hb0 : b' = w0.heap.size + 1 := by
      rcases hat with hat | hat
      · simp [Value.ownBlock] at hat
      · simpa using hat
    refine h _ cap1 w1 (.inr ⟨b', fun _ => gl, fun _ => cl, rfl, hb', hlt, ?_, fun i hi => ?_⟩) (hbel.mono (by omega)) hbel.size
    · have e1 : hdrs ([] ++ [l]) (fun _ => gl) (fun _ => cl) ([] ++ [l]).length = [] ++ [.slice (some ⟨gl, 0, none⟩) l.length cl] := by simp [hdrs, lpAt]
      rw [e1]; exact hr
    · have hi0 : i = 0 := by simpa using hi
      subst hi0
      show base ≤ gl ∧ gl < w1.heap.size ∧ gl ≠ b' ∧ OwnC1 w1 gl l ∧ ∀ j, j < 0 → gl ≠ gl
      refine ⟨by omega, Nat.lt_of_lt_of_le hgl hbel.size, by omega, ?_, fun j hj => absurd hj (Nat.not_lt_zero _)⟩
      exact hl.far (Far.below hbel (Nat.le_refl _)) (Nat.zero_le _) hgl
  · refine wp_append_lies (w0.alloc (.cells #[.slice (some ⟨gl, 0, none⟩) l.length cl] e)) s x t ho base e i z 1 bytes ht hi hz hs1 hb1 hzs (by decide) _ ls.length _ hs (orow_base (h3.below hal h3.lt) h1) ⟨w0.heap.size, 0, none⟩ 1 1 [.slice (some ⟨gl, 0, none⟩) l.length cl] hx rfl hcell (by simp [Value.oneCell']) (by decide) (by simp [maxLen]; omega) (Nat.le_trans (Nat.mul_le_mul_left (ls.length + 1) hby) (by omega)) (by simp; omega) _ rfl ?_
    intro b' cap1 w1 hown hgrow hat hlt
    obtain ⟨hr, hb'⟩ := orow_of hown
    have hG : Grew b (w0.alloc (.cells #[.slice (some ⟨gl, 0, none⟩) l.length cl] e)) w1 := grew_of hgrow
    have hsz : w0.heap.size + 1 ≤ w1.heap.size := by have := hG.size; simpa using this
    have hkeep : ∀ k, k < w0.heap.size → k ≠ b → w1.heap[k]? = w0.heap[k]? := fun k hk hne => (hG.block k (by simp; omega) hne).trans (hal.block k hk)
    have hb0 : b' = b ∨ b' = w0.heap.size + 1 := by
      rcases hat with hat | hat
      · exact .inl (by simpa [Value.ownBlock] using hat.symm)
      · exact .inr (by simpa using hat)
    have hfar : ∀ k, k < w0.heap.size → k ≠ b → Far k (k + 1) w0 w1 := fun k hk hne q hq1 hq2 => by
      have : q = k := by omega
      subst this; exact hkeep q hk hne
    refine h _ cap1 w1 (.inr ⟨b', fun i => if i = ls.length then gl else g i, fun i => if i = ls.length then cl else c i, rfl, hb', hlt, ?_, fun i hi => ?_⟩) ⟨hG.os.trans hal.os, hG.tape.trans hal.tape, hG.output.trans hal.output, by omega, fun k hk => hkeep k (by omega) (by omega)⟩ (by omega)
    · have e1 : (ls ++ [l]).length = ls.length + 1 := by simp
      rw [e1, hdrs_app]; exact hr
    · have hi' : i < ls.length + 1 := by simpa using hi
      by_cases hil : i = ls.length
      · subst hil
        rw [lpAt_last]
        simp only [if_true]
        refine ⟨by omega, by omega, by omega, hl.far (hfar gl hgl (by omega)) (Nat.le_refl _) (Nat.lt_succ_self _), fun j hj => ?_⟩
        rw [if_neg (by omega)]
        have := (h4 j hj).2.1
        omega
      · have hi2 : i < ls.length := by omega
        obtain ⟨a1, a2, a3, a4, a5⟩ := h4 i hi2
        rw [lpAt_app ls l hi2]
        simp only [if_neg hil]
        refine ⟨a1, by omega, by omega, a4.far (hfar (g i) (by omega) a3) (Nat.le_refl _) (Nat.lt_succ_self _), fun j hj => ?_⟩
        rw [if_neg (by omega)]
        exact a5 j hj
theorem step_appL {P : Program} {ops : Array Oper} {o : Oper} {a : Act} {K : Act → World → Prop} {Q : Exit → Act → World → Prop} {E : Prop} (hgd : o.guard = none) (s x : Operand) (t : TypeId)
    (ho : o.op = .call { callee := .builtin .append, args := #[s, x], argTypes := #[t, t] })
    (e : TypeId) (z : Value) (bytes : Nat) (ht : P.underlying t = some (.slice e)) (hinfo : (P.info? e).map (fun i => (i.zero, i.size, i.bytes)) = some (some z, 1, bytes)) (hzs : z.cells.size = 1) (hby : bytes ≤ 64)
    (w0 : World) (base top : Nat) (ao : Option Addr) (cap n : Nat) (ls : List (List Cx)) (gl cl m nb : Nat) (l : List Cx) (hs : a.eval s = .slice ao n cap) (hn : n = ls.length) (hx : a.eval x = .slice (some ⟨nb, 0, none⟩) 1 1) (hnb : nb = w0.heap.size)
    (hL : LsAt w0 e base top ao cap ls) (hl : OwnC1 w0 gl l) (hm : m = l.length) (hg : top ≤ gl) (hbt : base ≤ top) (hgl : gl < w0.heap.size) (htop : top ≤ w0.heap.size) (hlen : ls.length ≤ 1000)
    (h : ∀ ao' cap' w1, LsAt w1 e base w1.heap.size ao' cap' (ls ++ [l]) → RowKit.Below base w0 w1 → w0.heap.size ≤ w1.heap.size → K (a.put o.dst (.slice ao' (n + 1) cap')) w1) 
    (w' : World) (hw' : w' = w0.alloc (.cells #[.slice (some ⟨gl, 0, none⟩) m cl] e)) : if Region.wanted o (yielded ops a.tmps) = true then Oper.wp P o a w' K Q else E := by
  have hw : Region.wanted o (yielded ops a.tmps) = true := by simp [Region.wanted, hgd]
  rw [if_pos hw, hw']
  exact wp_appL s x t ho e z bytes ht hinfo hzs hby w0 base top ao cap n ls gl cl m nb l hs hn hx hnb hL hl hm hg hbt hgl htop hlen h
end Go.Fl

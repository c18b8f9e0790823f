/- SpeedPlan, the program's: its closure; slices.Backward. -/
import Derived.Test.YtfpkdnopbnppmaaSpS
import Derived.RangeFuncNested
import Derived.RangeFuncBound
import Derived.RangeFuncCalls
import Derived.RangeFuncLeaves
import Derived.RangeFuncBox
import Derived.Shelf.Abstract
import Derived.Shelf.RegionOpen
import Derived.OwnWalkIn
import Derived.TacticsInMore
import Derived.LoopNIn
import Derived.LoopIn
namespace Go.Proofs.Ytfpkdnopbnppmaa
open Go.RowKit Go.Fl Go.Shelf

set_option maxHeartbeats 1000000 in
set_option maxRecDepth 100000 in
theorem reach (i N cN vb pv pr lx rb ri : Nat) (V : List Nat) (hi : i < N) (hN : V.length = N) (hn : N ≤ 1000) (w : World) (h1 : w.cell? ⟨pv, 0, none⟩ = some (.slice (some ⟨vb, 0, none⟩) N cN)) (h2 : w.cell? ⟨pr, 0, none⟩ = some (.float .f32 rb)) (hr : F32 rb ri) (hV : ∃ x, w.cell? ⟨vb, i, none⟩ = some (.float .f32 x) ∧ F32 x (nF V i)) :
    Calls Try.prog 13 #[.int .i64 (i : Nat), .float .f32 lx, .pointer (some ⟨pv, 0, none⟩), .pointer (some ⟨pr, 0, none⟩)] w fun e w' => (∃ r, e = .returned (.float .f32 r) ∧ F32 r (spR ri (can .f32 lx) (nF V i))) ∧ ∃ n, w' = w.drewN n := by
  obtain ⟨vx, c2, hvx⟩ := hV
  have HVX := Lib.hid hvx
  have HRI := Lib.hid hr
  have k0 : (0 : Int) ≤ (i : Int) := by omega
  have k1 : (i : Int) < (N : Int) := by omega
  clear hvx hr
  go_enter Try.func13, Try.ntmps13
  go_wp2_with fail
  go_region_held (fun w' => w'.cell? ⟨pv, 0, none⟩ = some (.slice (some ⟨vb, 0, none⟩) N cN) ∧ w'.cell? ⟨pr, 0, none⟩ = some (.float .f32 rb) ∧ w'.cell? ⟨vb, i, none⟩ = some (.float .f32 vx)) (refine ⟨?_, ?_, ?_⟩ <;> first | exact h1 | exact h2 | exact c2)
    ((first | (go_at_call 14; refine (rootNumber _ _).mono ?_; rintro e w3 ⟨⟨r, rfl, hr⟩, q3, rfl⟩) | (refine wpList_f rfl rfl rfl rfl (by decide) ?_; intro _ _ _; simp only [Act.put, List.setIfInBounds_toArray, List.set_cons_succ, List.set_cons_zero])))
  all_goals
    have hrr : F32 r (spR ri (can .f32 lx) (nF V i)) := hr.trans (congrArg fsqrt (F32.add (F32.mul HVX.out HVX.out) (F32.mul (F32.mul (F32.lit can_l2N) HRI.out) (F32.mk lx))))
    have HRX := Lib.hid hrr
    clear hr hrr
    go_wp2_with fail
    go_ret
    exact ⟨⟨r, rfl, HRX.out⟩, _, rfl⟩

attribute [local go_sem] Oper.semAt_some
/-- what has come when k rounds are over -/
def bkw (bs : List Nat) (n k : Nat) : List (Nat × Nat) := (List.range k).map fun t => (n - 1 - t, nF bs (n - 1 - t))
theorem bkw_succ (bs : List Nat) (n k : Nat) : bkw bs n (k + 1) = bkw bs n k ++ [(n - 1 - k, nF bs (n - 1 - k))] := by simp [bkw, List.range_succ]
theorem bkw_length (bs : List Nat) (n k : Nat) : (bkw bs n k).length = k := by simp [bkw]
/-- of what lay below n₀ the row vb alone may have turned -/
def KpV (n₀ vb : Nat) (A B : World) : Prop := ∀ c, c < n₀ → c ≠ vb → B.heap[c]? = A.heap[c]?
theorem KpV.refl (n₀ vb : Nat) (A : World) : KpV n₀ vb A A := fun _ _ _ => rfl
theorem KpV.trans {n₀ vb : Nat} {A B C : World} (h : KpV n₀ vb A B) (k : KpV n₀ vb B C) : KpV n₀ vb A C := fun c h1 h2 => (k c h1 h2).trans (h c h1 h2)
theorem KpV.cell {n₀ vb : Nat} {A B : World} (h : KpV n₀ vb A B) {c o : Nat} (h1 : c < n₀) (h2 : c ≠ vb) : B.cell? ⟨c, o, none⟩ = A.cell? ⟨c, o, none⟩ := World.cell?_of_block (w := A) (a := ⟨c, o, none⟩) (h c h1 h2)
theorem KpV.below {n₀ vb : Nat} {A B : World} (h : Below n₀ A B) : KpV n₀ vb A B := fun c h1 _ => h.block c h1
theorem KpV.put {n₀ vb : Nat} {w : World} (hn : n₀ ≤ w.heap.size) (W : World) (l : Nat) (o o' : Obj) (hl : w.heap.size ≤ l) (_ : W.heap[l]? = some o) (_ : o.isCells = false) (_ : o.isWalk = false) : KpV n₀ vb W (W.putObj l o') := fun c h1 _ => World.putObj_heap_other (by omega)
set_option maxRecDepth 100000 in
set_option maxHeartbeats 2000000 in
theorem back1_in (F : Fence) (n : Nat) (h8 : F.fn 26) (hro : F.round = none) (hn : 1 ≤ n) (l Bs n₀ vb b off len cap : Nat) (bs : List Nat) (hlen : len ≤ 1048576) (hb : b < n₀) (hbv : b ≠ vb) (J Jx : List {x : Nat × Nat // x.1 < len} → World → Prop)
    (hY : ∀ pre x W, J pre W → pre.length < len → YieldAt F (n - 1) Try.prog l #[.int .i64 (x.1.1 : Int), .float .f32 x.1.2] W fun e W' =>
      (e = .returned (.bool true) ∧ J (pre ++ [x]) W' ∧ KpV n₀ vb W W') ∨ (e = .returned (.bool false) ∧ Jx (pre ++ [x]) W'))
    (W : World) (hBs : W.cell? ⟨Bs, 0, none⟩ = some (.slice (some ⟨b, off, none⟩) len cap)) (hbs : Bs < n₀) (hbv2 : Bs ≠ vb) (hc : ∀ j, j < len → W.cell? ⟨b, off + j, none⟩ = some (.float .f32 (nF bs j))) (h0 : J [] W) :
    CallsIn F n Try.prog 26 #[.func (.yield l) #[] #[], .pointer (some ⟨Bs, 0, none⟩)] W fun e W' => (∃ v, e = .returned v) ∧
      ((∃ ys, ys.map Subtype.val = bkw bs len len ∧ J ys W') ∨ (∃ pre, True ∧ Jx pre W')) := by
  refine callsIn_of_wp Try.func26 rfl h8 ?_ hro
  simp only [Try.ntmps26, List.size_toArray, List.length_cons, List.length_nil, Nat.reduceAdd, Nat.reduceSub, Array.replicate_succ, Array.replicate_zero, List.push_toArray, List.append_toArray, List.nil_append, List.cons_append]
  gi_wp2
  gi_loopw [3] (fun i wr => ∃ (k : Nat) (pre : List {x : Nat × Nat // x.1 < len}), k ≤ len ∧ i = .int .i64 ((len : Int) - 1 - (k : Int)) ∧ Hid (pre.map Subtype.val = bkw bs len k) ∧ J pre wr ∧ KpV n₀ vb W wr)
    (fun i _ => (intOf i + 1).toNat)
  case atStart => exact ⟨0, [], Nat.zero_le _, by simp, rfl, h0, KpV.refl _ _ _⟩
  case round =>
    obtain ⟨k, pre, hk, rfl, HP, hJs, hnx⟩ := hrel
    have hpl : pre.length = k := by have := congrArg List.length HP.out; simpa [bkw_length] using this
    have hB2 : wr.cell? ⟨Bs, 0, none⟩ = some (.slice (some ⟨b, off, none⟩) len cap) := (hnx.cell (o := 0) hbs hbv2).trans hBs
    by_cases hlt : k < len
    · obtain ⟨i, hi⟩ : ∃ i, i = len - 1 - k := ⟨_, rfl⟩
      have hii : (len : Int) - 1 - (k : Int) = (i : Int) := by omega
      have hil : i < len := by omega
      obtain ⟨fn, tmps, assign, body, hy, hR⟩ := hY _ ⟨(i, nF bs i), hil⟩ wr hJs (by omega)
      dsimp only at hy
      have hcx := (hnx.cell (o := off + i) hb hbv).trans (hc i hil)
      have k0 : (0 : Int) ≤ (i : Int) := by omega
      have k1 : (i : Int) < (len : Int) := by omega
      rw [hii]
      have HI := Lib.hid hi
      clear hi hii hc hpl
      gi_wp2
      refine hR.mono ?_
      rintro e W3 (⟨rfl, hJ3, hk3⟩ | ⟨rfl, hJx3⟩)
      · gi_wp2
        go_roundw
        case rel =>
          have hI := HI.out
          exact ⟨k + 1, _, by omega, by congr 1; omega, Lib.hid (by rw [List.map_append, HP.out, bkw_succ, ← hI]; rfl), hJ3, hnx.trans hk3⟩
        case measure =>
          have hI := HI.out
          first | (simp [intOf]; done) | (simp [intOf]; omega)
      · gi_wp2
        refine bodyPost_ret (results_none rfl _ _ _) rfl ?_
        exact ⟨⟨_, rfl⟩, .inr ⟨_, trivial, hJx3⟩⟩
    · obtain rfl : k = len := by omega
      have hm1 : (k : Int) - 1 - (k : Int) = -1 := by omega
      rw [hm1]
      gi_wp2
      go_end0
      exact ⟨⟨_, rfl⟩, .inl ⟨_, HP.out, hJs⟩⟩
set_option maxHeartbeats 1000000 in
theorem backward (a : Option Addr) (len cap : Nat) (w : World) :
    Calls Try.prog 15 #[.slice a len cap] w fun e w' => e = .returned (.func (.func 26) #[] #[.pointer (some ⟨w.heap.size, 0, none⟩)]) ∧ w' = w.alloc (.cells #[.slice a len cap] 24) := by
  go_enter Try.func15, Try.ntmps15
  go_wp2_with fail
  go_ret
  exact ⟨rfl, rfl⟩
theorem back_stops (F : Fence) (n : Nat) (h8 : F.fn 26) (hro : F.round = none) (hn : 1 ≤ n) (Bs n₀ vb b off cap : Nat) (bs : List Nat) (hlen : bs.length ≤ 1048576) (hb : b < n₀) (hbv : b ≠ vb) (hbs : Bs < n₀) (hbv2 : Bs ≠ vb) (w : World) (hn₀ : n₀ ≤ w.heap.size)
    (hBs : w.cell? ⟨Bs, 0, none⟩ = some (.slice (some ⟨b, off, none⟩) bs.length cap)) (hc : ∀ j, j < bs.length → w.cell? ⟨b, off + j, none⟩ = some (.float .f32 (nF bs j))) :
    SeqStopsK F n Try.prog 26 #[.pointer (some ⟨Bs, 0, none⟩)] (fun x : {x : Nat × Nat // x.1 < bs.length} => #[Value.int .i64 (x.1.1 : Int), Value.float .f32 x.1.2]) (KpV n₀ vb) (fun ys => ys.map Subtype.val = bkw bs bs.length bs.length)
      (fun _ => True) bs.length w := fun l J Jx W hW _ _ hY h0 =>
  back1_in F n h8 hro hn l Bs n₀ vb b off bs.length cap bs hlen hb hbv J Jx hY W ((hW.cell (p := ⟨Bs, 0, none⟩) (by show Bs < _; omega)).trans hBs) hbs hbv2 (fun j hj => (hW.cell (p := ⟨b, off + j, none⟩) (by show b < _; omega)).trans (hc j hj)) h0
end Go.Proofs.Ytfpkdnopbnppmaa

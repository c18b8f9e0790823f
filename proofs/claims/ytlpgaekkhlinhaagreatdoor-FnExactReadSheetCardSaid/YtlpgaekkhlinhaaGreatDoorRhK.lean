/- slices.Chunk by threes: its iterator. -/
import Derived.Test.YtlpgaekkhlinhaaGreatDoorRhC
import Derived.Test.YtlpgaekkhlinhaaGreatDoorRnd
import Derived.BigRegionIn
namespace Go.Proofs.YtlpgaekkhlinhaaGreatDoor
open Go.RowKit Go.Fl
attribute [local go_sem] Oper.semAt_some
/-- of what lay below n₀ the block vb alone may have turned -/
def KpV (n₀ vb : Nat) (A B : World) : Prop := ∀ c, c < n₀ → c ≠ vb → B.heap[c]? = A.heap[c]?
theorem KpV.refl (n₀ vb : Nat) (A : World) : KpV n₀ vb A A := fun _ _ _ => rfl
theorem KpV.trans {n₀ vb : Nat} {A B C : World} (h : KpV n₀ vb A B) (k : KpV n₀ vb B C) : KpV n₀ vb A C := fun c h1 h2 => (k c h1 h2).trans (h c h1 h2)
theorem KpV.cell {n₀ vb : Nat} {A B : World} (h : KpV n₀ vb A B) {c o : Nat} (h1 : c < n₀) (h2 : c ≠ vb) : B.cell? ⟨c, o, none⟩ = A.cell? ⟨c, o, none⟩ := World.cell?_of_block (w := A) (a := ⟨c, o, none⟩) (h c h1 h2)
theorem KpV.below {n₀ vb : Nat} {A B : World} (h : Below n₀ A B) : KpV n₀ vb A B := fun c h1 _ => h.block c h1
theorem KpV.put {n₀ vb : Nat} {w : World} (hn : n₀ ≤ w.heap.size) (W : World) (l : Nat) (o o' : Obj) (hl : w.heap.size ≤ l) (_ : W.heap[l]? = some o) (_ : o.isCells = false) (_ : o.isWalk = false) : KpV n₀ vb W (W.putObj l o') := fun c h1 _ => World.putObj_heap_other (by omega)
set_option maxHeartbeats 1000000 in
theorem chunkF (b : Nat) (len cap : Nat) (w : World) :
    Calls Tryz.prog 34 #[.slice (some ⟨b, 0, none⟩) len cap, .int .i64 3] w fun e w' => e = .returned (.func (.func 58) #[] #[.pointer (some ⟨w.heap.size, 0, none⟩), .pointer (some ⟨w.heap.size + 1, 0, none⟩)]) ∧ w' = (w.alloc (.cells #[.slice (some ⟨b, 0, none⟩) len cap] 23)).alloc (.cells #[.int .i64 3] 3) := by
  go_enter Tryz.func34, Tryz.ntmps34
  go_wp2_with fail
  go_ret
  exact ⟨rfl, rfl⟩
set_option maxRecDepth 100000 in
set_option maxHeartbeats 2000000 in
theorem chunk1_in (n : Nat) (hn : 1 ≤ n) (l Bs Bn n₀ vb b L cap m : Nat) (hL : L = 3 * m) (hlen : L ≤ 1048576) (hcap : L ≤ cap) (hb : b < n₀) (hbv : b ≠ vb) (J Jx : List {x : Nat // x < m} → World → Prop) (hJd : ∀ pre W, J pre W → J pre W.drew)
    (hY : ∀ pre x W, J pre W → pre.length < m → YieldAt Fence.wide (n - 1) Tryz.prog l #[.slice (some ⟨b, 3 * x.1, none⟩) 3 3] W fun e W' =>
      (e = .returned (.bool true) ∧ J (pre ++ [x]) W' ∧ KpV n₀ vb W W') ∨ (e = .returned (.bool false) ∧ Jx (pre ++ [x]) W'))
    (W : World) (hBs : W.cell? ⟨Bs, 0, none⟩ = some (.slice (some ⟨b, 0, none⟩) L cap)) (hbs : Bs < n₀) (hbv2 : Bs ≠ vb) (hBn : W.cell? ⟨Bn, 0, none⟩ = some (.int .i64 3)) (hbn : Bn < n₀) (hbv3 : Bn ≠ vb) (h0 : J [] W) :
    CallsIn Fence.wide n Tryz.prog 58 #[.func (.yield l) #[] #[], .pointer (some ⟨Bs, 0, none⟩), .pointer (some ⟨Bn, 0, none⟩)] W fun e W' => (∃ v, e = .returned v) ∧
      ((∃ ys, ys.map Subtype.val = List.range m ∧ J ys W') ∨ (∃ pre, True ∧ Jx pre W')) := by
  refine callsIn_of_wp Tryz.func58 rfl trivial ?_ rfl
  simp only [Tryz.ntmps58, List.size_toArray, List.length_cons, List.length_nil, Nat.reduceAdd, Nat.reduceSub, Array.replicate_succ, Array.replicate_zero, List.push_toArray, List.append_toArray, List.nil_append, List.cons_append]
  gi_wp2
  gi_loopw [4, 5] (fun i _ wr => ∃ (k d : Nat) (pre : List {x : Nat // x < m}), k ≤ m ∧ Hid (d = 3 * k) ∧ i = .int .i64 d ∧ Hid (pre.map Subtype.val = List.range k) ∧ J pre wr ∧ KpV n₀ vb W wr)
    (fun i _ _ => 3 * m - (intOf i).toNat)
  case atStart => exact ⟨0, 0, [], Nat.zero_le _, Lib.hid rfl, by simp, Lib.hid rfl, h0, KpV.refl _ _ _⟩
  case round =>
    obtain ⟨k, d, pre, hk, HD, rfl, HP, hJs, hnx⟩ := hrel
    have hpl : pre.length = k := by have := congrArg List.length HP.out; simpa using this
    have hB2 : wr.cell? ⟨Bs, 0, none⟩ = some (.slice (some ⟨b, 0, none⟩) L cap) := (hnx.cell (o := 0) hbs hbv2).trans hBs
    have hB3 : wr.cell? ⟨Bn, 0, none⟩ = some (.int .i64 3) := (hnx.cell (o := 0) hbn hbv3).trans hBn
    have hd := HD.out
    by_cases hlt : k < m
    · obtain ⟨fn, tmps, assign, body, hy, hR⟩ := hY _ ⟨k, hlt⟩ wr.drew (hJd _ _ hJs) (by omega)
      dsimp only at hy
      rw [← hd] at hy
      have k0 : (0 : Int) ≤ (d : Int) := by omega
      have k1 : (d : Int) < (L : Int) := by omega
      have k2 : (d : Int) ≤ (L : Int) := by omega
      have ht : ((d : Int) + 3).toNat - d = 3 := by omega
      have hno : ¬ ((3 * m - d : Nat) : Int) < 3 := by omega
      clear hpl hd
      gi_wp2
      gi_region
      gi_wp2
      refine hR.mono ?_
      rintro e W3 (⟨rfl, hJ3, hk3⟩ | ⟨rfl, hJx3⟩)
      · have hB5 : W3.cell? ⟨Bn, 0, none⟩ = some (.int .i64 3) := (hk3.cell (o := 0) hbn hbv3).trans hB3
        gi_wp2
        go_roundw
        case rel => exact ⟨k + 1, d + 3, _, by omega, Lib.hid (by have := HD.out; omega), by go_num, Lib.hid (by rw [List.map_append, HP.out, List.range_succ]; rfl), hJ3, hnx.trans (fun c h1 h2 => hk3 c h1 h2)⟩
        case measure => have := HD.out; simp [intOf]; omega
      · gi_wp2
        refine bodyPost_ret (results_none rfl _ _ _) rfl ?_
        exact ⟨⟨_, rfl⟩, .inr ⟨_, trivial, hJx3⟩⟩
    · obtain rfl : k = m := by omega
      have k1 : ¬ (d : Int) < (L : Int) := by omega
      gi_wp2
      go_end0
      exact ⟨⟨_, rfl⟩, .inl ⟨_, HP.out, hJs⟩⟩
theorem chunk_stops (n : Nat) (hn : 1 ≤ n) (Bs Bn n₀ vb b L cap m : Nat) (hL : L = 3 * m) (hlen : L ≤ 1048576) (hcap : L ≤ cap) (hb : b < n₀) (hbv : b ≠ vb) (hbs : Bs < n₀) (hbv2 : Bs ≠ vb) (hbn : Bn < n₀) (hbv3 : Bn ≠ vb) (w : World) (hn₀ : n₀ ≤ w.heap.size)
    (hBs : w.cell? ⟨Bs, 0, none⟩ = some (.slice (some ⟨b, 0, none⟩) L cap)) (hBn : w.cell? ⟨Bn, 0, none⟩ = some (.int .i64 3)) :
    SeqStopsK Fence.wide n Tryz.prog 58 #[.pointer (some ⟨Bs, 0, none⟩), .pointer (some ⟨Bn, 0, none⟩)] (fun x : {x : Nat // x < m} => #[Value.slice (some ⟨b, 3 * x.1, none⟩) 3 3]) (KpV n₀ vb) (fun ys => ys.map Subtype.val = List.range m)
      (fun _ => True) m w := fun l J Jx W hW hJ _ hY h0 =>
  chunk1_in n hn l Bs Bn n₀ vb b L cap m hL hlen hcap hb hbv J Jx (fun _ _ h => hJ _ _ _ none h ⟨rfl, rfl, rfl, Nat.le_refl _, fun _ _ _ => rfl⟩ (fun r e => by cases e)) hY W ((hW.cell (p := ⟨Bs, 0, none⟩) (by show Bs < _; omega)).trans hBs) hbs hbv2 ((hW.cell (p := ⟨Bn, 0, none⟩) (by show Bn < _; omega)).trans hBn) hbn hbv3 h0
end Go.Proofs.YtlpgaekkhlinhaaGreatDoor

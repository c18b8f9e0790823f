/- slices.Clone of complex numbers, slices.Repeat of one number. -/
import Derived.Test.YtiinalckidghaaaDN
import Derived.Test.YtiinalckidghaaaShelf
import Derived.Laws.CopyOwn
namespace Go.Proofs.Ytiinalckidghaaa
open Go.RowKit Go.Fl

theorem cloneC (lo hi b0 c : Nat) (l : List Cx) (h0 : 0 < l.length) (hn : l.length ≤ 1048576) (w : World) (hs : SlC w lo hi (some ⟨b0, 0, none⟩) l) :
    Calls Try.prog 28 #[.slice (some ⟨b0, 0, none⟩) l.length c] w fun e w' => (∃ b cap, e = .returned (.slice (some ⟨b, 0, none⟩) l.length cap) ∧ w.heap.size ≤ b ∧ b < w'.heap.size ∧ OwnC1 w' b l) ∧ Below w.heap.size w w' := by
  obtain ⟨i, hi, hzz⟩ := Option.map_eq_some_iff.1 infoCx
  simp only [Prod.mk.injEq] at hzz
  obtain ⟨hz, hs1, hb1⟩ := hzz
  refine (Try.slices_Clone i (.complex .f32 0 0) 1 8 hi hz hs1 hb1 rfl (by decide) (fun w => by kernel_rfl) b0 0 l.length c (l.map cV) w (by simp) (by simp [maxLen]; omega) (by omega) (fun j u hu => ?_) cV_one).mono ?_
  · have := hs.news j u hu
    have hadd : (⟨b0, 0, none⟩ : Addr).add j = ⟨b0, j, none⟩ := by unfold Addr.add; split <;> simp_all
    rw [hadd] at this
    rw [Nat.zero_add]; exact this
  · rintro e w' ⟨v', rfl, ho, hne, hb⟩
    refine ⟨?_, hb⟩
    obtain ⟨b, cap, hv, hr⟩ := ORow0.form (show ORow0 w' 38 1 v' l.length (l.map cV) from ⟨ho.1, ho.2.imp id (fun ⟨g, c, cur, a1, a2, r⟩ => ⟨g, c, cur, a1, Nat.zero_le _, r⟩)⟩) h0
    subst hv
    obtain ⟨q1, q2⟩ := World.ownsRow.lt ho b rfl
    exact ⟨b, cap, rfl, q1, q2, OwnC1.row hr rfl⟩

/-- k numbers x, then zeros, n in all -/
def repCs (x k n : Nat) : List Value := List.replicate k (.float .f32 x) ++ List.replicate (n - k) (.float .f32 0)
theorem repCs_len (x : Nat) {k n : Nat} (h : k ≤ n) : (repCs x k n).length = n := by simp [repCs]; omega
theorem repCs_zero (x n : Nat) : repCs x 0 n = List.replicate n (.float .f32 0) := by simp [repCs]
theorem splice_len {α : Type} (L : List α) (off : Nat) (cs : List α) (h : off + cs.length ≤ L.length) : (splice L off cs).length = L.length := by
  simp [splice]; omega
theorem repCs_splice (x : Nat) {k m n : Nat} (h : k + m ≤ n) : splice (repCs x k n) k (List.replicate m (.float .f32 x)) = repCs x (k + m) n := by
  unfold splice repCs
  rw [List.take_append_of_le_length (by simp), List.take_of_length_le (by simp), List.drop_append, List.drop_eq_nil_of_le (by simp)]
  simp only [List.length_replicate, List.nil_append, List.drop_replicate]
  rw [← List.append_assoc, List.replicate_append_replicate, show n - k - (k + m - k) = n - (k + m) by omega]
theorem repCs_at (x : Nat) {k n i : Nat} (h : i < k) : (repCs x k n)[i]? = some (.float .f32 x) := by
  unfold repCs
  rw [List.getElem?_append_left (by simpa using h)]
  simp [h]
set_option maxHeartbeats 1000000 in
set_option maxRecDepth 100000 in
theorem repF (g c x n : Nat) (h1 : 1 ≤ n) (hn : n ≤ 1000) (w : World) (hc : w.cell? ⟨g, 0, none⟩ = some (.float .f32 x)) :
    Calls Try.prog 43 #[.slice (some ⟨g, 0, none⟩) 1 c, .int .i64 (n : Nat)] w fun e w' => (∃ b, e = .returned (.slice (some ⟨b, 0, none⟩) n n) ∧ b = w.heap.size ∧ b < w'.heap.size ∧ OwnC w' b (repCs x n n).toArray 41) ∧ Below w.heap.size w w' := by
  have hmk := run_make_row' (P := Try.prog) 23 41 (.float .f32 0) 4 Try.underlying23 infoF rfl .i64 .i64 n (by omega) (by omega)
  have n0 : (0 : Int) ≤ (n : Int) := by omega
  have n1 : (n : Int) ≤ 1000 := by omega
  go_enter Try.func43, Try.ntmps43
  have hM : ∀ w, Calls Try.prog 55 #[.int .u64 1, .int .u64 (n : Nat)] w fun e w' => e = .returned (.tuple #[.int .u64 0, .int .u64 (n : Nat)]) ∧ w' = w := fun w => by
    have h := Try.bits_Mul 1 n (by omega) (by omega) w
    rw [Nat.one_mul, Nat.div_eq_of_lt (by omega), Nat.mod_eq_of_lt (by omega)] at h
    exact h
  have HM := Lib.hid hM
  clear hM
  have hgl := World.block_lt_of_cell? w _ hc
  have HC := Lib.hid hc
  have hsz : (Try.prog.info? 41).map (·.size) = some 1 := by kernel_rfl
  have HSZ := Lib.hid hsz
  have hrow0 : (w.alloc (.cells (madeCells #[.float .f32 0] n) 41)).heap[w.heap.size]? = some (.cells (repCs x 0 n).toArray 41 (0, 0)) := by
    have e : madeCells #[.float .f32 0] n = (repCs x 0 n).toArray := by
      rw [repCs_zero, ← toList_madeCells_one]
    rw [e]; exact heap_alloc_new w _
  have HR0 := Lib.hid hrow0
  have hsrc0 : ∀ j u, [Value.float .f32 x][j]? = some u → (w.alloc (.cells (madeCells #[.float .f32 0] n) 41)).cell? ((⟨g, 0, none⟩ : Addr).add j) = some u := fun j u hu => by
    have hj : j = 0 := by
      have := (List.getElem?_eq_some_iff.1 hu).1
      simp at this; omega
    subst hj
    have hadd : (⟨g, 0, none⟩ : Addr).add 0 = ⟨g, 0, none⟩ := by unfold Addr.add; split <;> simp_all
    rw [hadd, ← hu]
    exact (World.cell?_of_block (w := w) (a := ⟨g, 0, none⟩) (Below.heap_alloc _ _ _ hgl)).trans HC.out
  have HS0 := Lib.hid hsrc0
  clear hc hrow0 hsrc0 hsz
  go_wp2_with (first
    | (go_at_call 55; refine (HM.out _).mono ?_; rintro e w1 ⟨rfl, rfl⟩)
    | (refine wpList_copy_splice rfl (.tmp 31) (.tmp 32) 23 23 rfl 41 Try.underlying23 HSZ.out (some ⟨_, 0, none⟩) (some ⟨g, 0, none⟩) n n 1 c rfl rfl _ 0 (repCs x 0 n) 41 HR0.out [.float .f32 x] (show 1 = Nat.min 1 n from (Nat.min_eq_left h1).symm) (fun _ => ⟨rfl, ⟨g, 0, none⟩, rfl, HS0.out⟩) (by rw [repCs_len x (Nat.zero_le _)]; simpa using h1) (by simp [Value.oneCell']) _ _ (Below.alloc (Below.refl _ _) (Nat.le_refl _) _) (Nat.le_refl _) ?_; intro w2 hg2 hb2))
  have hg2' : w2.heap[w1.heap.size]? = some (.cells (repCs x 1 n).toArray 41 (0, 0)) := by
    have := repCs_splice x (k := 0) (m := 1) (n := n) (by omega)
    rw [Nat.zero_add] at this
    have h := hg2.out
    rw [show [Value.float .f32 x] = List.replicate 1 (.float .f32 x) from rfl, this] at h
    exact h
  have HG2 := Lib.hid hg2'
  have HB2 := Lib.hid hb2
  have z2 := hb2.size
  clear hg2 hg2' hb2 hmk HS0 HR0
  go_loopw [8] (fun i wr => ∃ k : Nat, 1 ≤ k ∧ k ≤ n ∧ i = .int .i64 k ∧ Hid (wr.heap[w1.heap.size]? = some (.cells (repCs x k n).toArray 41 (0, 0))) ∧ Hid (Below w1.heap.size w1 wr)) (fun i _ => n - (intOf i).toNat)
  case atStart => exact ⟨1, by omega, h1, rfl, HG2, HB2⟩
  case round =>
    obtain ⟨k, hk1, hk, rfl, HG, HB⟩ := hrel
    by_cases hlt : k < n
    · have k0 : (0 : Int) ≤ (k : Int) := by omega
      have k1 : (k : Int) < (n : Int) := by omega
      have k2 : (k : Int) ≤ (n : Int) := by omega
      have hnk : ¬ n = k := by omega
      obtain ⟨m, hm⟩ : ∃ m, m = Nat.min k (n - k) := ⟨_, rfl⟩
      have hm1 : 1 ≤ m := by rw [hm]; exact Nat.le_min.2 ⟨hk1, by omega⟩
      have hm2 : k + m ≤ n := by have := Nat.min_le_right k (n - k); have e : m = min k (n - k) := hm; omega
      have HM2 := Lib.hid hm
      have hsrc : ∀ j u, (List.replicate m (Value.float .f32 x))[j]? = some u → wr.cell? ((⟨w1.heap.size, 0, none⟩ : Addr).add j) = some u := fun j u hu => by
        have hj : j < m := by
          have := (List.getElem?_eq_some_iff.1 hu).1
          simpa using this
        have hadd : (⟨w1.heap.size, 0, none⟩ : Addr).add j = ⟨w1.heap.size, j, none⟩ := by unfold Addr.add; split <;> simp_all
        have hmk : m ≤ k := by have e : m = min k (n - k) := HM2.out; omega
        rw [hadd]
        simp only [World.cell?, HG.out, List.getElem?_toArray]
        rw [repCs_at x (show j < k by omega), ← hu]
        simp [hj]
      have HS := Lib.hid hsrc
      have HRL := Lib.hid (repCs_len x hk)
      clear hsrc hm
      go_wp2_with fail
      have HGD := Lib.hid (show wr.drew.heap[w1.heap.size]? = some (.cells (repCs x k n).toArray 41 (0, 0)) from HG.out)
      have HBD := Lib.hid (HB.out.drew)
      have HSD := Lib.hid (show ∀ j u, (List.replicate m (Value.float .f32 x))[j]? = some u → wr.drew.cell? ((⟨w1.heap.size, 0, none⟩ : Addr).add j) = some u from HS.out)
      go_region_law (refine step_copy_splice rfl (.tmp 41) (.tmp 44) 23 23 rfl 41 Try.underlying23 HSZ.out (some ⟨w1.heap.size, k, none⟩) (some ⟨w1.heap.size, 0, none⟩) (n - k) (n - k) k n (by simp [Act.eval, Act.put]) (by simp [Act.eval, Act.put]) w1.heap.size k (repCs x k n) 41 HGD.out (List.replicate m (.float .f32 x)) (by rw [List.length_replicate]; exact HM2.out) (fun _ => ⟨rfl, ⟨w1.heap.size, 0, none⟩, rfl, HSD.out⟩) (by rw [HRL.out]; simpa using hm2) (by intro v hv; rw [List.mem_replicate] at hv; rw [hv.2]; rfl) w1.heap.size w1 HBD.out (Nat.le_refl _) ?_; intro w4 hg4 hb4)
      all_goals
        have hlm : (List.replicate m (Value.float .f32 x)).length = m := List.length_replicate
        have hg4' := hg4.out
        rw [repCs_splice x hm2] at hg4'
        simp only [List.getElem_toArray, List.getElem_cons_succ, List.getElem_cons_zero, Act.put, List.setIfInBounds_toArray, List.set_cons_succ, List.set_cons_zero]
        have hw : IntKind.i64.wrap ((k : Int) + (m : Int)) = ((k + m : Nat) : Int) := by rw [IntKind.wrap_i64]; omega
        rw [hw]
        go_roundw
        case rel => exact ⟨_, _, _, _, _, _, _, _, _, _, _, _, _, _, ⟨k + m, by omega, hm2, rfl, Lib.hid hg4', Lib.hid hb4⟩, rfl⟩
        case measure =>
          show n - (intOf (.int .i64 ((k + m : Nat) : Int))).toNat < n - (intOf (.int .i64 ((k : Nat) : Int))).toNat
          simp only [intOf, Int.toNat_natCast]
          omega
    · have hkk : k = n := by omega
      subst hkk
      go_wp2_with fail
      go_ret
      exact ⟨⟨_, rfl, rfl, HB.out.size |> (fun h => by have := (Array.getElem?_eq_some_iff.1 HG.out).1; omega), HG.out⟩, HB.out⟩
end Go.Proofs.Ytiinalckidghaaa

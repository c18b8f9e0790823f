/- Contracts: a net's own copy, by the law's own functions. Contracts of the small functions on numbers, for nets. Contracts of the square root of a number of 32 bits. -/
import Derived.Test.YtkjljajjjhfklaaChecked
import Derived.Test.YtkjljajjjhfklaaNj01
import Derived.Deep.OwnRows
namespace Go.Proofs.Ytkjljajjjhfklaa
open Go.RowKit Go.Fl

theorem infoInt : (Try.prog.info? 2).map (fun i => (i.zero, i.size, i.bytes)) = some (some (.int .i64 0), 1, 8) := by kernel_rfl
theorem rowI {w : World} {b : Nat} {T : TypeId} {n : Nat} {f : Nat → Value} {xs : List Int} (h : w.rowIs b T n f) (hn : n = xs.length) (hf : ∀ i, i < n → f i = .int .i64 (iAt xs i)) (cn : Nat) (hcn : cn = b + 1) :
    SlI w b cn (some ⟨b, 0, none⟩) xs ∧ Room w b xs.length := by
  subst hn hcn
  refine ⟨fun _ => ⟨b, 0, rfl, Nat.le_refl _, Nat.lt_succ_self _, fun i hi => ?_⟩, ?_⟩
  · rw [Nat.zero_add, h.cell hi, hf i hi]
  · obtain ⟨cs, h1, h2, h3⟩ := h
    exact ⟨cs, T, h1, Nat.le_of_eq h2.symm⟩

theorem stepI (f : Nat → Int) (j k : Nat) : (if j = k then Value.int .i64 (f k) else .int .i64 (if j < k then f j else 0)) = .int .i64 (if j < k + 1 then f j else 0) := by
  by_cases h : j = k
  · subst h; simp
  · rw [if_neg h]
    by_cases h2 : j < k
    · rw [if_pos h2, if_pos (by omega)]
    · rw [if_neg h2, if_neg (by omega)]

/-- the value of a spot -/
def spV (x y z : Nat) : Value := .agg #[.float .f32 x, .float .f32 y, .float .f32 z]
theorem infoSpot : (Try.prog.info? 46).map (fun i => (i.zero, i.size, i.bytes)) = some (some (spV 0 0 0), 3, 12) := by kernel_rfl
theorem run_make_row3 (n : Nat) (h : n ≤ 1048576) (w : World) :
    (Instr.makeSlice 24 (.int .i64 (n : Int)) (.int .i64 (n : Int))).run Try.prog w = .ok (.slice (some ⟨w.heap.size, 0, none⟩) n n) (w.alloc (.cells (madeCells #[.float .f32 0, .float .f32 0, .float .f32 0] (n * 3)) 46)) := by
  obtain ⟨i, hi, hzz⟩ := Option.map_eq_some_iff.1 infoSpot
  simp only [Prod.mk.injEq] at hzz
  obtain ⟨hz, hs, hb⟩ := hzz
  have hr := Go.run_make (P := Try.prog) w 24 46 i (spV 0 0 0) Try.underlying24 hi hz .i64 .i64 n n (by omega) (Int.le_refl _) (by rw [hb]; omega) (by omega)
  simp only [Int.toNat_natCast, hs] at hr
  exact hr

/-- block b is a row of n spots, of which the first k read as ps -/
def SpRow (w : World) (b n k : Nat) (ps : List Sp) : Prop :=
  ∃ g : Nat → Nat, w.rowIs b 46 (n * 3) (fun j => .float .f32 (g j)) ∧ ∀ i, i < k → F32 (g (i * 3)) (pAt ps i).1 ∧ F32 (g (i * 3 + 1)) (pAt ps i).2.1 ∧ F32 (g (i * 3 + 2)) (pAt ps i).2.2
theorem SpRow.made (w : World) (n : Nat) (ps : List Sp) : SpRow (w.alloc (.cells (madeCells #[.float .f32 0, .float .f32 0, .float .f32 0] (n * 3)) 46)) w.heap.size n 0 ps := by
  refine ⟨fun _ => 0, ⟨_, heap_alloc_new _ _, size_madeCells _ _, fun i hi => ?_⟩, fun i hi => by omega⟩
  have hm : i % 3 = 0 ∨ i % 3 = 1 ∨ i % 3 = 2 := by omega
  rcases hm with hm | hm | hm <;> simp [madeCells, hi, hm]
theorem SpRow.put {w : World} {b n k : Nat} {ps : List Sp} (h : SpRow w b n k ps) (x y z : Nat) (hx : F32 x (pAt ps k).1) (hy : F32 y (pAt ps k).2.1) (hz : F32 z (pAt ps k).2.2) :
    SpRow (((w.setCell ⟨b, k * 3, none⟩ (.float .f32 x)).setCell ⟨b, k * 3 + 1, none⟩ (.float .f32 y)).setCell ⟨b, k * 3 + 2, none⟩ (.float .f32 z)) b n (k + 1) ps := by
  obtain ⟨g, hr, hg⟩ := h
  refine ⟨fun j => if j = k * 3 + 2 then z else if j = k * 3 + 1 then y else if j = k * 3 then x else g j, (((hr.set (k * 3) _).set (k * 3 + 1) _).set (k * 3 + 2) _).congr (fun i _ => ?_), fun i hi => ?_⟩
  · dsimp only
    by_cases h1 : i = k * 3 + 2
    · simp [h1]
    · by_cases h2 : i = k * 3 + 1
      · simp [h2]
      · by_cases h3 : i = k * 3
        · simp [h3]
        · simp [h1, h2, h3]
  · by_cases hk : i = k
    · subst hk
      exact ⟨by simp [hx], by simp [hy], by simp [hz]⟩
    · obtain ⟨g1, g2, g3⟩ := hg i (by omega)
      refine ⟨?_, ?_, ?_⟩
      · show F32 (if _ then _ else _) _
        rw [if_neg (by omega), if_neg (by omega), if_neg (by omega)]; exact g1
      · show F32 (if _ then _ else _) _
        rw [if_neg (by omega), if_neg (by omega), if_neg (by omega)]; exact g2
      · show F32 (if _ then _ else _) _
        rw [if_neg (by omega), if_neg (by omega), if_neg (by omega)]; exact g3
theorem SpRow.full {w : World} {b : Nat} {ps : List Sp} (h : SpRow w b ps.length ps.length ps) : SlP w b (b + 1) (some ⟨b, 0, none⟩) ps ∧ Room w b (ps.length * 3) := by
  obtain ⟨g, hr, hg⟩ := h
  refine ⟨fun _ => ⟨b, 0, rfl, Nat.le_refl _, Nat.lt_succ_self _, fun i hi => ?_⟩, ?_⟩
  · obtain ⟨g1, g2, g3⟩ := hg i hi
    refine ⟨_, _, _, ?_, ?_, ?_, g1, g2, g3⟩
    · rw [Nat.zero_add]; exact hr.cell (by omega)
    · rw [Nat.zero_add]; exact hr.cell (by omega)
    · rw [Nat.zero_add]; exact hr.cell (by omega)
  · obtain ⟨cs, h1, h2, h3⟩ := hr
    exact ⟨cs, _, h1, Nat.le_of_eq h2.symm⟩
theorem SpRow.cells {w : World} {b n k i : Nat} {ps : List Sp} (h : SpRow w b n k ps) (hi : i < n) :
    ∃ x y z, w.cell? ⟨b, i * 3, none⟩ = some (.float .f32 x) ∧ w.cell? ⟨b, i * 3 + 1, none⟩ = some (.float .f32 y) ∧ w.cell? ⟨b, i * 3 + 2, none⟩ = some (.float .f32 z) := by
  obtain ⟨g, hr, hg⟩ := h
  exact ⟨_, _, _, hr.cell (by omega), hr.cell (by omega), hr.cell (by omega)⟩
theorem SpRow.free {w : World} {b n k : Nat} {ps : List Sp} (h : SpRow w b n k ps) (i : Nat) : w.frozen? ⟨b, i, none⟩ = false := by
  obtain ⟨g, hr, hg⟩ := h
  exact hr.frozen i
theorem SpRow.below {w w' : World} {b n k B : Nat} {ps : List Sp} (h : SpRow w b n k ps) (hb : Below B w w') (hl : b < B) : SpRow w' b n k ps := by
  obtain ⟨g, hr, hg⟩ := h
  exact ⟨g, hr.of_block (hb.block b hl), hg⟩

/-- facets that the walk owns: their row lies in block bf, the corners of facet i in block g i -/
structure OwnF (w : World) (lo hi bf : Nat) (g : Nat → Nat) (fs : List (List Int)) : Prop where
  row : lo ≤ bf ∧ bf < hi
  head : ∀ i, i < fs.length → ∃ ci, w.cell? ⟨bf, i, none⟩ = some (.slice (some ⟨g i, 0, none⟩) (fAt fs i).length ci)
  blk : ∀ i, i < fs.length → lo ≤ g i ∧ g i < hi ∧ g i ≠ bf
  inj : ∀ i j, i < j → j < fs.length → g i ≠ g j
  room : ∀ i, i < fs.length → Room w (g i) (fAt fs i).length
  reads : ∀ i, i < fs.length → SlI w (g i) (g i + 1) (some ⟨g i, 0, none⟩) (fAt fs i)
  cap : ∀ i, i < fs.length → ∀ ai n ci, w.cell? ⟨bf, i, none⟩ = some (.slice ai n ci) → n ≤ ci
theorem OwnF.net {w : World} {lo hi bf : Nat} {g : Nat → Nat} {fs : List (List Int)} (h : OwnF w lo hi bf g fs) : SlN w lo hi (some ⟨bf, 0, none⟩) fs := fun _ => by
  refine ⟨bf, 0, rfl, h.row.1, h.row.2, fun i hi => ?_⟩
  obtain ⟨ci, hc⟩ := h.head i hi
  have hb := h.blk i hi
  exact ⟨_, ci, by rw [Nat.zero_add]; exact hc, (h.reads i hi).mono (by omega) (by omega)⟩

/-- the first k facets of a row of n have their own corners -/
structure FRow (w : World) (B bf n k : Nat) (g : Nat → Nat) (fs : List (List Int)) : Prop where
  row : w.rowIs bf 38 n (fun j => if j < k then .slice (some ⟨g j, 0, none⟩) (fAt fs j).length (fAt fs j).length else .slice none 0 0)
  blk : ∀ i, i < k → bf < g i ∧ g i < w.heap.size
  inj : ∀ i j, i < j → j < k → g i ≠ g j
  room : ∀ i, i < k → Room w (g i) (fAt fs i).length
  reads : ∀ i, i < k → SlI w (g i) (g i + 1) (some ⟨g i, 0, none⟩) (fAt fs i)
theorem infoFacet : (Try.prog.info? 38).map (fun i => (i.zero, i.size, i.bytes)) = some (some (.agg #[.slice none 0 0]), 1, 24) := by kernel_rfl
theorem run_make_rowF (n : Nat) (h : n ≤ 1048576) (w : World) :
    (Instr.makeSlice 25 (.int .i64 (n : Int)) (.int .i64 (n : Int))).run Try.prog w = .ok (.slice (some ⟨w.heap.size, 0, none⟩) n n) (w.alloc (.cells (madeCells #[.slice none 0 0] n) 38)) := by
  obtain ⟨i, hi, hzz⟩ := Option.map_eq_some_iff.1 infoFacet
  simp only [Prod.mk.injEq] at hzz
  obtain ⟨hz, hs, hb⟩ := hzz
  have hr := Go.run_make (P := Try.prog) w 25 38 i (.agg #[.slice none 0 0]) Try.underlying25 hi hz .i64 .i64 n n (by omega) (Int.le_refl _) (by rw [hb]; omega) (by omega)
  simp only [Int.toNat_natCast, hs, Nat.mul_one] at hr
  exact hr
theorem FRow.put {w w1 : World} {B bf n k b : Nat} {g : Nat → Nat} {fs : List (List Int)} (h : FRow w B bf n k g fs) (hf : bf < w.heap.size) (hb : Below w.heap.size w w1) (h1 : w.heap.size ≤ b) (h2 : b < w1.heap.size)
    (hs : SlI w1 b (b + 1) (some ⟨b, 0, none⟩) (fAt fs k)) (hr : Room w1 b (fAt fs k).length) :
    ∃ g, FRow (w1.setCell ⟨bf, k, none⟩ (.slice (some ⟨b, 0, none⟩) (fAt fs k).length (fAt fs k).length)) B bf n (k + 1) g fs := by
  have hsz := hb.size
  refine ⟨fun j => if j = k then b else g j, ?_, ?_, ?_, ?_, ?_⟩
  · refine ((h.row.of_block (hb.block bf hf)).set k _).congr (fun i _ => ?_)
    show (if i = k then _ else if i < k then _ else _) = (if i < k + 1 then _ else _)
    by_cases hi : i = k
    · subst hi; simp
    · rw [if_neg hi]
      by_cases h3 : i < k
      · rw [if_pos h3, if_pos (by omega), if_neg hi]
      · rw [if_neg h3, if_neg (by omega)]
  · intro i hi
    show bf < (if i = k then b else g i) ∧ (if i = k then b else g i) < _
    by_cases hk : i = k
    · rw [if_pos hk]; simp; omega
    · rw [if_neg hk]
      have := h.blk i (by omega)
      simp; omega
  · intro i j hij hj
    show (if i = k then b else g i) ≠ (if j = k then b else g j)
    rw [if_neg (by omega)]
    by_cases hk : j = k
    · rw [if_pos hk]
      have := h.blk i (by omega)
      omega
    · rw [if_neg hk]
      exact h.inj i j hij (by omega)
  · intro i hi
    show Room _ (if i = k then b else g i) _
    by_cases hk : i = k
    · rw [if_pos hk]; subst hk; exact hr.set _ _ _
    · rw [if_neg hk]
      have := h.blk i (by omega)
      exact ((h.room i (by omega)).far (lo := 0) (Far.below hb (Nat.le_refl _)) (Nat.zero_le _) this.2).set _ _ _
  · intro i hi
    show SlI _ (if i = k then b else g i) ((if i = k then b else g i) + 1) (some ⟨if i = k then b else g i, 0, none⟩) _
    by_cases hk : i = k
    · rw [if_pos hk]; subst hk
      exact hs.far ((Far.refl _ _ _).set _ _ (.inl (by simp; omega)))
    · rw [if_neg hk]
      have := h.blk i (by omega)
      exact (h.reads i (by omega)).far ((Far.below hb (by omega)).set _ _ (.inl (by simp; omega)))
theorem FRow.own {w : World} {B bf : Nat} {g : Nat → Nat} {fs : List (List Int)} (h : FRow w B bf fs.length fs.length g fs) : OwnF w bf w.heap.size bf g fs where
  row := ⟨Nat.le_refl _, h.row.lt⟩
  head := fun i hi => ⟨_, by rw [h.row.cell hi, if_pos hi]⟩
  blk := fun i hi => by have := h.blk i hi; omega
  inj := h.inj
  room := h.room
  reads := h.reads
  cap := fun i hi ai n ci hc => by
    rw [h.row.cell hi, if_pos hi] at hc
    cases hc; exact Nat.le_refl _

theorem OwnF.far {w w' : World} {lo hi bf : Nat} {g : Nat → Nat} {fs : List (List Int)} (h : OwnF w lo hi bf g fs) (hf : Far lo hi w w') : OwnF w' lo hi bf g fs where
  row := h.row
  head := fun i hi => by
    obtain ⟨ci, hc⟩ := h.head i hi
    exact ⟨ci, (hf.cell h.row.1 h.row.2).trans hc⟩
  blk := h.blk
  inj := h.inj
  room := fun i hi => (h.room i hi).far hf (h.blk i hi).1 (h.blk i hi).2.1
  reads := fun i hi => (h.reads i hi).far (hf.mono (h.blk i hi).1 (h.blk i hi).2.1)
  cap := fun i hi ai n ci hc => h.cap i hi ai n ci ((hf.cell h.row.1 h.row.2).symm.trans hc)
theorem OwnF.mono {w : World} {lo hi lo' hi' bf : Nat} {g : Nat → Nat} {fs : List (List Int)} (h : OwnF w lo hi bf g fs) (hl : lo' ≤ lo) (hh : hi ≤ hi') : OwnF w lo' hi' bf g fs where
  row := by have := h.row; omega
  head := h.head
  blk := fun i hi => by have := h.blk i hi; omega
  inj := h.inj
  room := h.room
  reads := h.reads
  cap := h.cap

/-- a net that the walk owns: spots in block bs, the facets' row in block bf -/
structure OwnNet (w : World) (lo hi bs bf : Nat) (g : Nat → Nat) (ps : List Sp) (fs : List (List Int)) : Prop where
  spots : SlP w bs (bs + 1) (some ⟨bs, 0, none⟩) ps
  room : Room w bs (ps.length * 3)
  facets : OwnF w lo hi bf g fs
  low : lo ≤ bs ∧ bs < hi
  apart : bs ≠ bf ∧ ∀ i, i < fs.length → g i ≠ bs
theorem OwnNet.net {w : World} {lo hi bs bf : Nat} {g : Nat → Nat} {ps : List Sp} {fs : List (List Int)} (h : OwnNet w lo hi bs bf g ps fs) : NetAt w lo hi (some ⟨bs, 0, none⟩) (some ⟨bf, 0, none⟩) ps fs :=
  ⟨h.spots.mono h.low.1 (by have := h.low; omega), h.facets.net⟩
theorem OwnNet.far {w w' : World} {lo hi bs bf : Nat} {g : Nat → Nat} {ps : List Sp} {fs : List (List Int)} (h : OwnNet w lo hi bs bf g ps fs) (hf : Far lo hi w w') : OwnNet w' lo hi bs bf g ps fs :=
  ⟨h.spots.far (hf.mono h.low.1 (by have := h.low; omega)), h.room.far hf h.low.1 h.low.2, h.facets.far hf, h.low, h.apart⟩

end Go.Proofs.Ytkjljajjjhfklaa

namespace Go.Proofs.Ytkjljajjjhfklaa
open Go.RowKit Go.Fl

def Goes (g : Nat) : Prop := ∀ args w, Sem.run Try.prog (callFunc g args) w = .ok (.enter g args) w

set_option maxHeartbeats 400000 in
theorem indexFunc (p : Nat → Bool) (g : Nat) (hg : Goes g) (hf : ∀ x w, Calls Try.prog g #[.float .f32 x] w fun e w' => e = .returned (.bool (p x)) ∧ ∃ n, w' = w.drewN n)
    (xs : List Nat) (v : Value) (w : World) (hs : SlF w v xs) :
    Calls Try.prog 87 #[v, .func (.func g) #[] #[]] w fun e w' => e = .returned (.int .i64 (idx p xs)) ∧ ∃ n, w' = w.drewN n := by
  have HF := Lib.hid hf
  clear hf
  have hgo : ∀ args w, Sem.run Try.prog (callFunc g args) w = .ok (.enter g args) w := hg
  rcases hs with ⟨rfl, rfl⟩ | ⟨b, off, cap, rfl, hm, hc⟩
  · go_enter Try.func87, Try.ntmps87
    go_wp2_with fail
    refine wp_loop_rounds 1 ?_
    rw [rounds_succ]
    go_wp2_with fail
    go_ret
    exact ⟨rfl, 0, rfl⟩
  go_enter Try.func87, Try.ntmps87
  go_wp2_with fail
  go_loopw [8] (fun i wr => ∃ k q : Nat, k ≤ xs.length ∧ i = .int .i64 k ∧ wr = w.drewN q ∧ (xs.take k).any p = false) (fun i _ => xs.length - (intOf i).toNat)
  case atStart => exact ⟨0, 0, by omega, rfl, rfl, rfl⟩
  case round =>
    obtain ⟨k, q, hk, rfl, rfl, hn⟩ := hrel
    by_cases hlt : k < xs.length
    · have hcell := hc k hlt
      have HN := Lib.hid hn
      clear hn hc
      go_wp2_with fail
      refine (HF.out _ _).mono ?_
      rintro e w' ⟨rfl, n, rfl⟩
      go_wp2_with fail
      · go_ret
        exact ⟨ret_int (idx_some hlt HN.out ‹_›).symm, _, rfl⟩
      · go_roundw
        case rel => exact ⟨k + 1, _, by omega, by go_num, rfl, any_snoc hlt HN.out ‹_›⟩
        case measure => simp [intOf]; omega
    · have HN := Lib.hid hn
      clear hn hc
      go_wp2_with fail
      go_ret
      have e : xs.take k = xs := List.take_of_length_le (by omega)
      exact ⟨ret_int (idx_none (by rw [← e]; exact HN.out)).symm, _, rfl⟩

theorem containsFunc (p : Nat → Bool) (g : Nat) (hg : Goes g) (hf : ∀ x w, Calls Try.prog g #[.float .f32 x] w fun e w' => e = .returned (.bool (p x)) ∧ ∃ n, w' = w.drewN n)
    (xs : List Nat) (v : Value) (w : World) (hs : SlF w v xs) :
    Calls Try.prog 77 #[v, .func (.func g) #[] #[]] w fun e w' => e = .returned (.bool (xs.any p)) ∧ ∃ n, w' = w.drewN n := by
  have HF := Lib.hid hf
  have HS := Lib.hid hs
  clear hf hs
  go_enter Try.func77, Try.ntmps77
  go_wp2_with fail
  refine (indexFunc p g hg HF.out xs v _ HS.out).mono ?_
  rintro e w' ⟨rfl, n, rfl⟩
  go_wp2_with fail
  go_ret
  exact ⟨ret_bool (idx_ge p xs), _, rfl⟩

theorem implIsFinite (x : Nat) (w : World) : Calls Try.prog 74 #[.float .f32 x] w fun e w' => e = .returned (.bool (fin (can .f32 x))) ∧ ∃ n, w' = w.drewN n := by
  go_enter Try.func74, Try.ntmps74
  go_wp2_with fail
  go_ret
  exact ⟨ret_bool (F32.eq (F32.sub (F32.mk x) (F32.mk x)) F32.zero), _, rfl⟩
theorem ifNumber (x : Nat) (w : World) : Calls Try.prog 41 #[.float .f32 x] w fun e w' => (∃ r, e = .returned (.tuple #[.float .f32 r, .bool (fin (can .f32 x))]) ∧ F32 r (ifFin (can .f32 x))) ∧ ∃ n, w' = w.drewN n := by
  cases hf : fin (can .f32 x)
  all_goals
   go_enter Try.func41, Try.ntmps41
   go_wp2_with (go_at_call 74; refine (implIsFinite _ _).mono ?_; rintro e w' ⟨rfl, n, rfl⟩)
   go_ret2
   exact ⟨⟨_, rfl, by first | exact F32.ifFin_no hf | exact F32.ifFin_yes hf⟩, _, rfl⟩
theorem areFinite1 (x : Nat) (w : World) : Calls Try.prog 78 #[.float .f32 x] w fun e w' => e = .returned (.bool (!fin (can .f32 x))) ∧ ∃ n, w' = w.drewN n := by
  go_enter Try.func78, Try.ntmps78
  go_wp2_with (go_at_call 74; refine (implIsFinite _ _).mono ?_; rintro e w' ⟨rfl, n, rfl⟩)
  all_goals
    go_ret
    exact ⟨rfl, _, rfl⟩
theorem any_not {α : Type} (p : α → Bool) (xs : List α) : (!xs.any fun x => !p x) = xs.all p := by
  induction xs with
  | nil => rfl
  | cons x xs ih => simp only [List.any_cons, List.all_cons, Bool.not_or, Bool.not_not, ih]
set_option maxRecDepth 100000 in
theorem areFinite (xs : List Nat) (v : Value) (w : World) (hs : SlF w v xs) :
    Calls Try.prog 62 #[v] w fun e w' => e = .returned (.bool (xs.all fun x => fin (can .f32 x))) ∧ ∃ n, w' = w.drewN n := by
  have HS := Lib.hid hs
  clear hs
  go_enter Try.func62, Try.ntmps62
  go_wp2_with fail
  refine (containsFunc _ _ (fun _ _ => rfl) (fun x w => areFinite1 x w) xs v _ HS.out).mono ?_
  rintro e w' ⟨rfl, n, rfl⟩
  go_wp2_with fail
  go_ret
  exact ⟨ret_bool (any_not _ _), _, rfl⟩
end Go.Proofs.Ytkjljajjjhfklaa

namespace Go.Fl
open Ieee

def sqrtK (y : Nat) : Nat := (FloatKind.f64.format.sqrt y).getD (qnan .f64)
/-- the root of a number, through 64 bits -/
def fsqrt (x : Nat) : Nat := fcv .f64 .f32 (sqrtK (fcv .f32 .f64 x))
def msqrt (y : Nat) (w : World) : Nat := match FloatKind.f64.format.sqrt y with | some r => r | none => (Question.nanBits .f64 y y).cut (w.tape w.drawn (.nanBits .f64 y y))
def msqd (y : Nat) : Nat := if (FloatKind.f64.format.sqrt y).isSome then 0 else 1

theorem root_not_nan {n : Nat} {x r : Datum} (h : x.root n = some r) : r.isNaN = false := by
  cases x <;> simp only [Datum.root] at h
  · split at h
    · cases h; rfl
    · split at h
      · cases h
      · cases h; rfl
  · split at h
    · cases h
    · cases h; rfl
  · cases h
theorem sqrt_not_nan {y r : Nat} (h : FloatKind.f64.format.sqrt y = some r) : nanB .f64 r = false := by
  simp only [Format.sqrt, Option.map_eq_some_iff] at h
  obtain ⟨d, hd, rfl⟩ := h
  exact write_not_nan (k := .f64) (root_not_nan hd)
theorem sqrt_nan {y : Nat} (h : nanB .f64 y = true) : FloatKind.f64.format.sqrt y = none := by
  obtain ⟨s, f, hd⟩ := isNaN_nan h
  simp only [Format.sqrt]
  rw [hd]; rfl
theorem sqrt_can (y : Nat) : FloatKind.f64.format.sqrt (can .f64 y) = FloatKind.f64.format.sqrt y := by
  by_cases h : nanB .f64 y = true
  · rw [sqrt_nan h, sqrt_nan (by rw [nanB_can]; exact h)]
  · rw [can_of_not (by simpa using h)]
theorem can_msqrt (y : Nat) (w : World) : can .f64 (msqrt y w) = sqrtK (can .f64 y) := by
  unfold msqrt sqrtK
  rw [sqrt_can]
  cases h : FloatKind.f64.format.sqrt y with
  | some r => exact can_of_not (sqrt_not_nan h)
  | none => exact can_of_nan (cut_nan .f64 y y _)
theorem fits_sqrt (x : Nat) : fits .f64 .f32 (sqrtK (fcv .f32 .f64 x)) = true := by
  unfold sqrtK
  cases h : FloatKind.f64.format.sqrt (fcv .f32 .f64 x) with
  | some r => exact fits_root x r h
  | none => decide +kernel
end Go.Fl

namespace Go.Proofs.Ytkjljajjjhfklaa
open Go.RowKit Go.Fl

theorem run_sqrt (y : Nat) (w : World) : (callFunc 89 #[.float .f64 y]).run Try.prog w = .ok (.value (.float .f64 (msqrt y w))) (w.drewN (msqd y)) := by
  have h := run_callFunc_extern (P := Try.prog) (e := Extern.MathSqrt.sqrt) Try.func89 (by kernel_rfl) (by kernel_rfl) (by kernel_rfl) (by kernel_rfl) #[.float .f64 y] w
  rw [h]
  have e : (Extern.MathSqrt.sqrt #[.float .f64 y]).run Try.prog w = .ok (.float .f64 (msqrt y w)) (w.drewN (msqd y)) := by
    show Sem.run Try.prog (match FloatKind.f64.format.sqrt y with | some r => pure (Value.float .f64 r) | none => do pure (Value.float .f64 (← choose (.nanBits .f64 y y)))) w = _
    unfold msqrt msqd
    cases hs : FloatKind.f64.format.sqrt y with
    | some r => simp [hs, World.drewN_zero]
    | none => simp [hs, Question.forced, World.drew_is_drewN]
  rw [e]; rfl

theorem mathSqrt (y : Nat) (w : World) : Calls Try.prog 85 #[.float .f64 y] w fun e w' => (∃ r, e = .returned (.float .f64 r) ∧ can .f64 r = sqrtK (can .f64 y)) ∧ ∃ n, w' = w.drewN n := by
  have hs := run_sqrt y
  go_enter Try.func85, Try.ntmps85
  go_wp2_with fail
  go_ret
  exact ⟨⟨_, rfl, can_msqrt y _⟩, _, rfl⟩

theorem narrow_of {r x : Nat} {w : World} (h : can .f64 r = sqrtK (fcv .f32 .f64 x)) : F32 (mcv .f64 .f32 r w) (fsqrt x) := by
  unfold F32 fsqrt
  rw [can_mcv _ _ _ _ (by rw [← fits_can, h]; exact fits_sqrt x), h]

theorem rootNumber (x : Nat) (w : World) : Calls Try.prog 75 #[.float .f32 x] w fun e w' => (∃ r, e = .returned (.float .f32 r) ∧ F32 r (fsqrt (can .f32 x))) ∧ ∃ n, w' = w.drewN n := by
  go_enter Try.func75, Try.ntmps75
  go_wp2_with fail
  refine (mathSqrt _ _).mono ?_
  rintro e w' ⟨⟨r, rfl, hr⟩, n, rfl⟩
  rw [can_mcv _ _ _ _ (fits_widen x)] at hr
  have HR := Lib.hid hr
  clear hr
  go_wp2_with fail
  go_ret
  exact ⟨⟨_, rfl, narrow_of HR.out⟩, _, rfl⟩
end Go.Proofs.Ytkjljajjjhfklaa

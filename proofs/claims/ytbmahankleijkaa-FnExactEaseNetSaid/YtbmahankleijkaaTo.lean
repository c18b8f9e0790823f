/- Contracts: a net's own copy, by the law's own functions. -/
import Derived.Test.YtbmahankleijkaaChecked
import Derived.Test.YtbmahankleijkaaMem
import Derived.Deep.OwnRows
namespace Go.Proofs.Ytbmahankleijkaa
open Go.RowKit Go.Fl

theorem infoInt : (Try.prog.info? 2).map (fun i => (i.zero, i.size, i.bytes)) = some (some (.int .i64 0), 1, 8) := by kernel_rfl
theorem rowI {w : World} {b : Nat} {T : TypeId} {n : Nat} {f : Nat → Value} {xs : List Int} (h : w.rowIs b T n f) (hn : n = xs.length) (hf : ∀ i, i < n → f i = .int .i64 (iAt xs i)) (cn : Nat) (hcn : cn = b + 1) :
    SlI w b cn (some ⟨b, 0, none⟩) xs ∧ Room w b xs.length := by
  subst hn hcn
  refine ⟨fun _ => ⟨b, 0, rfl, Nat.le_refl _, Nat.lt_succ_self _, fun i hi => ?_⟩, ?_⟩
  · rw [Nat.zero_add, h.cell hi, hf i hi]
  · obtain ⟨cs, h1, h2, h3⟩ := h
    exact ⟨cs, T, h1, Nat.le_of_eq h2.symm⟩

theorem stepI (f : Nat → Int) (j k : Nat) : (if j = k then Value.int .i64 (f k) else .int .i64 (if j < k then f j else 0)) = .int .i64 (if j < k + 1 then f j else 0) := by
  by_cases h : j = k
  · subst h; simp
  · rw [if_neg h]
    by_cases h2 : j < k
    · rw [if_pos h2, if_pos (by omega)]
    · rw [if_neg h2, if_neg (by omega)]

set_option maxHeartbeats 1000000 in
theorem toInt64S (lo hi : Nat) (ao : Option Addr) (c : Nat) (xs : List Int) (hn : xs.length ≤ 1048576) (w : World) (hs : SlI w lo hi ao xs) (hh : hi ≤ w.heap.size) :
    Calls Try.prog 124 #[.slice ao xs.length c] w fun e w' => e = .returned (.slice (some ⟨w.heap.size, 0, none⟩) xs.length xs.length) ∧
      SlI w' w.heap.size (w.heap.size + 1) (some ⟨w.heap.size, 0, none⟩) xs ∧ Room w' w.heap.size xs.length ∧ w'.heap.size = w.heap.size + 1 ∧ Below w.heap.size w w' := by
  have HS := Lib.hid hs
  clear hs
  have hmk := run_make_row' (P := Try.prog) 27 2 (.int .i64 0) 8 Try.underlying27 infoInt rfl .i64 .i64 xs.length (by omega) (by omega)
  go_enter Try.func124, Try.ntmps124
  go_wp2_with fail
  go_loopw [4] (fun i wr => ∃ (k : Nat), k ≤ xs.length ∧ i = .int .i64 k ∧ wr.rowIs w.heap.size 2 xs.length (fun j => .int .i64 (if j < k then iAt xs j else 0)) ∧ wr.heap.size = w.heap.size + 1 ∧ Below w.heap.size w wr) (fun i _ => xs.length - (intOf i).toNat)
  case atStart => exact ⟨0, by omega, rfl, (World.rowIs_made _ _ _ _).congr (fun i _ => rfl), by simp, by (repeat (first | exact Below.refl _ _ | assumption | refine below_dr ?_ _ | refine Below.alloc ?_ (by first | omega | (simp; done) | (simp; omega)) _ | refine Below.setCell ?_ (by first | omega | (simp; done) | (simp; omega)) _ | refine Below.trans ?_ (Below.mono (by assumption) (by first | omega | (simp; done) | (simp; omega)))))⟩
  case round =>
    obtain ⟨k, hk, rfl, hrow, hsz, hb⟩ := hrel
    clear hmk
    by_cases hlt : k < xs.length
    · obtain ⟨b, off, rfl, hb1, hb2, hc⟩ := (HS.out.far (Far.below hb hh)) (by omega)
      have hc1 := hc k hlt
      have hd1 := hrow.cell hlt
      have hd2 := hrow.frozen k
      clear hc
      go_wp2_with fail
      go_roundw
      case rel => exact ⟨k + 1, by omega, by go_num, (hrow.set k _).congr (fun j _ => stepI (iAt xs) j k), by simpa using hsz, hb.setCell (by simp) _⟩
      case measure => simp [intOf]; omega
    · go_wp2_with fail
      go_ret
      have hkk : k = xs.length := by omega
      subst hkk
      exact ⟨rfl, (rowI hrow rfl (fun i hi => by rw [if_pos hi]) _ rfl).1, (rowI hrow rfl (fun i hi => by rw [if_pos hi]) _ rfl).2, hsz, hb⟩

/-- the value of a spot -/
def spV (x y z : Nat) : Value := .agg #[.float .f32 x, .float .f32 y, .float .f32 z]
theorem toSpot (x y z : Nat) (w : World) :
    Calls Try.prog 102 #[spV x y z] w fun e w' => e = .returned (spV x y z) ∧ Below w.heap.size w w' := by
  unfold spV
  go_enter Try.func102, Try.ntmps102
  go_wp2_with fail
  refine bodyPost_ret (v := .agg #[.float .f32 x, .float .f32 y, .float .f32 z]) (by simp [results, Try.results102, go_sem]) rfl ⟨rfl, ?_⟩
  (repeat (first | exact Below.refl _ _ | assumption | refine below_dr ?_ _ | refine Below.alloc ?_ (by first | omega | (simp; done) | (simp; omega)) _ | refine Below.setCell ?_ (by first | omega | (simp; done) | (simp; omega)) _ | refine Below.trans ?_ (Below.mono (by assumption) (by first | omega | (simp; done) | (simp; omega)))))

theorem infoSpot : (Try.prog.info? 79).map (fun i => (i.zero, i.size, i.bytes)) = some (some (spV 0 0 0), 3, 12) := by kernel_rfl
theorem run_make_row3 (n : Nat) (h : n ≤ 1048576) (w : World) :
    (Instr.makeSlice 30 (.int .i64 (n : Int)) (.int .i64 (n : Int))).run Try.prog w = .ok (.slice (some ⟨w.heap.size, 0, none⟩) n n) (w.alloc (.cells (madeCells #[.float .f32 0, .float .f32 0, .float .f32 0] (n * 3)) 79)) := by
  obtain ⟨i, hi, hzz⟩ := Option.map_eq_some_iff.1 infoSpot
  simp only [Prod.mk.injEq] at hzz
  obtain ⟨hz, hs, hb⟩ := hzz
  have hr := Go.run_make (P := Try.prog) w 30 79 i (spV 0 0 0) Try.underlying30 hi hz .i64 .i64 n n (by omega) (Int.le_refl _) (by rw [hb]; omega) (by omega)
  simp only [Int.toNat_natCast, hs] at hr
  exact hr

/-- block b is a row of n spots, of which the first k read as ps -/
def SpRow (w : World) (b n k : Nat) (ps : List Sp) : Prop :=
  ∃ g : Nat → Nat, w.rowIs b 79 (n * 3) (fun j => .float .f32 (g j)) ∧ ∀ i, i < k → F32 (g (i * 3)) (pAt ps i).1 ∧ F32 (g (i * 3 + 1)) (pAt ps i).2.1 ∧ F32 (g (i * 3 + 2)) (pAt ps i).2.2
theorem SpRow.made (w : World) (n : Nat) (ps : List Sp) : SpRow (w.alloc (.cells (madeCells #[.float .f32 0, .float .f32 0, .float .f32 0] (n * 3)) 79)) w.heap.size n 0 ps := by
  refine ⟨fun _ => 0, ⟨_, heap_alloc_new _ _, size_madeCells _ _, fun i hi => ?_⟩, fun i hi => by omega⟩
  have hm : i % 3 = 0 ∨ i % 3 = 1 ∨ i % 3 = 2 := by omega
  rcases hm with hm | hm | hm <;> simp [madeCells, hi, hm]
theorem SpRow.put {w : World} {b n k : Nat} {ps : List Sp} (h : SpRow w b n k ps) (x y z : Nat) (hx : F32 x (pAt ps k).1) (hy : F32 y (pAt ps k).2.1) (hz : F32 z (pAt ps k).2.2) :
    SpRow (((w.setCell ⟨b, k * 3, none⟩ (.float .f32 x)).setCell ⟨b, k * 3 + 1, none⟩ (.float .f32 y)).setCell ⟨b, k * 3 + 2, none⟩ (.float .f32 z)) b n (k + 1) ps := by
  obtain ⟨g, hr, hg⟩ := h
  refine ⟨fun j => if j = k * 3 + 2 then z else if j = k * 3 + 1 then y else if j = k * 3 then x else g j, (((hr.set (k * 3) _).set (k * 3 + 1) _).set (k * 3 + 2) _).congr (fun i _ => ?_), fun i hi => ?_⟩
  · dsimp only
    by_cases h1 : i = k * 3 + 2
    · simp [h1]
    · by_cases h2 : i = k * 3 + 1
      · simp [h2]
      · by_cases h3 : i = k * 3
        · simp [h3]
        · simp [h1, h2, h3]
  · by_cases hk : i = k
    · subst hk
      exact ⟨by simp [hx], by simp [hy], by simp [hz]⟩
    · obtain ⟨g1, g2, g3⟩ := hg i (by omega)
      refine ⟨?_, ?_, ?_⟩
      · show F32 (if _ then _ else _) _
        rw [if_neg (by omega), if_neg (by omega), if_neg (by omega)]; exact g1
      · show F32 (if _ then _ else _) _
        rw [if_neg (by omega), if_neg (by omega), if_neg (by omega)]; exact g2
      · show F32 (if _ then _ else _) _
        rw [if_neg (by omega), if_neg (by omega), if_neg (by omega)]; exact g3
theorem SpRow.full {w : World} {b : Nat} {ps : List Sp} (h : SpRow w b ps.length ps.length ps) : SlP w b (b + 1) (some ⟨b, 0, none⟩) ps ∧ Room w b (ps.length * 3) := by
  obtain ⟨g, hr, hg⟩ := h
  refine ⟨fun _ => ⟨b, 0, rfl, Nat.le_refl _, Nat.lt_succ_self _, fun i hi => ?_⟩, ?_⟩
  · obtain ⟨g1, g2, g3⟩ := hg i hi
    refine ⟨_, _, _, ?_, ?_, ?_, g1, g2, g3⟩
    · rw [Nat.zero_add]; exact hr.cell (by omega)
    · rw [Nat.zero_add]; exact hr.cell (by omega)
    · rw [Nat.zero_add]; exact hr.cell (by omega)
  · obtain ⟨cs, h1, h2, h3⟩ := hr
    exact ⟨cs, _, h1, Nat.le_of_eq h2.symm⟩
theorem SpRow.cells {w : World} {b n k i : Nat} {ps : List Sp} (h : SpRow w b n k ps) (hi : i < n) :
    ∃ x y z, w.cell? ⟨b, i * 3, none⟩ = some (.float .f32 x) ∧ w.cell? ⟨b, i * 3 + 1, none⟩ = some (.float .f32 y) ∧ w.cell? ⟨b, i * 3 + 2, none⟩ = some (.float .f32 z) := by
  obtain ⟨g, hr, hg⟩ := h
  exact ⟨_, _, _, hr.cell (by omega), hr.cell (by omega), hr.cell (by omega)⟩
theorem SpRow.free {w : World} {b n k : Nat} {ps : List Sp} (h : SpRow w b n k ps) (i : Nat) : w.frozen? ⟨b, i, none⟩ = false := by
  obtain ⟨g, hr, hg⟩ := h
  exact hr.frozen i
theorem SpRow.below {w w' : World} {b n k B : Nat} {ps : List Sp} (h : SpRow w b n k ps) (hb : Below B w w') (hl : b < B) : SpRow w' b n k ps := by
  obtain ⟨g, hr, hg⟩ := h
  exact ⟨g, hr.of_block (hb.block b hl), hg⟩

set_option maxHeartbeats 1000000 in
theorem toSpotS (lo hi : Nat) (ao : Option Addr) (c : Nat) (ps : List Sp) (hn : ps.length ≤ 1048576) (w : World) (hs : SlP w lo hi ao ps) (hh : hi ≤ w.heap.size) :
    Calls Try.prog 47 #[.slice ao ps.length c] w fun e w' => e = .returned (.slice (some ⟨w.heap.size, 0, none⟩) ps.length ps.length) ∧
      SlP w' w.heap.size (w.heap.size + 1) (some ⟨w.heap.size, 0, none⟩) ps ∧ Room w' w.heap.size (ps.length * 3) ∧ w.heap.size < w'.heap.size ∧ Below w.heap.size w w' := by
  have HS := Lib.hid hs
  clear hs
  have hmk := run_make_row3 ps.length hn
  go_enter Try.func47, Try.ntmps47
  go_wp2_with fail
  go_loopw [4] (fun i wr => ∃ (k : Nat), k ≤ ps.length ∧ i = .int .i64 k ∧ SpRow wr w.heap.size ps.length k ps ∧ w.heap.size < wr.heap.size ∧ Below w.heap.size w wr) (fun i _ => ps.length - (intOf i).toNat)
  case atStart => exact ⟨0, by omega, rfl, SpRow.made _ _ _, by simp, by (repeat (first | exact Below.refl _ _ | assumption | refine below_dr ?_ _ | refine Below.alloc ?_ (by first | omega | (simp; done) | (simp; omega)) _ | refine Below.setCell ?_ (by first | omega | (simp; done) | (simp; omega)) _ | refine Below.trans ?_ (Below.mono (by assumption) (by first | omega | (simp; done) | (simp; omega)))))⟩
  case round =>
    obtain ⟨k, hk, rfl, hrow, hsz, hb⟩ := hrel
    clear hmk
    by_cases hlt : k < ps.length
    · obtain ⟨b, off, rfl, hb1, hb2, hc⟩ := (HS.out.far (Far.below hb hh)) (by omega)
      obtain ⟨x, y, z, c1, c2, c3, f1, f2, f3⟩ := hc k hlt
      have HROW := Lib.hid hrow
      clear hc hrow
      go_wp2_with (go_at_call 102; refine (toSpot x y z _).mono ?_; rintro e w1 ⟨rfl, hb3⟩; have hrow1 := HROW.out.below hb3 hsz; obtain ⟨x1, y1, z1, d1, d2, d3⟩ := hrow1.cells hlt; have e1 := hrow1.free (k * 3); have e2 := hrow1.free (k * 3 + 1); have e3 := hrow1.free (k * 3 + 2); have HR1 := Lib.hid hrow1; clear HROW hrow1; unfold spV)
      go_roundw
      case rel =>
        have hb4 := hb.trans (hb3.mono hb.size)
        have := hb3.size
        exact ⟨k + 1, by omega, by go_num, HR1.out.put x y z f1 f2 f3, by simp; omega, ((hb4.setCell (by simp) _).setCell (by simp) _).setCell (by simp) _⟩
      case measure => simp [intOf]; omega
    · go_wp2_with fail
      go_ret
      have hkk : k = ps.length := by omega
      subst hkk
      exact ⟨rfl, hrow.full.1, hrow.full.2, hsz, hb⟩

/-- facets that the walk owns: their row lies in block bf, the corners of facet i in block g i -/
structure OwnF (w : World) (lo hi bf : Nat) (g : Nat → Nat) (fs : List (List Int)) : Prop where
  row : lo ≤ bf ∧ bf < hi
  head : ∀ i, i < fs.length → ∃ ci, w.cell? ⟨bf, i, none⟩ = some (.slice (some ⟨g i, 0, none⟩) (fAt fs i).length ci)
  blk : ∀ i, i < fs.length → lo ≤ g i ∧ g i < hi ∧ g i ≠ bf
  inj : ∀ i j, i < j → j < fs.length → g i ≠ g j
  room : ∀ i, i < fs.length → Room w (g i) (fAt fs i).length
  reads : ∀ i, i < fs.length → SlI w (g i) (g i + 1) (some ⟨g i, 0, none⟩) (fAt fs i)
  cap : ∀ i, i < fs.length → ∀ ai n ci, w.cell? ⟨bf, i, none⟩ = some (.slice ai n ci) → n ≤ ci
theorem OwnF.net {w : World} {lo hi bf : Nat} {g : Nat → Nat} {fs : List (List Int)} (h : OwnF w lo hi bf g fs) : SlN w lo hi (some ⟨bf, 0, none⟩) fs := fun _ => by
  refine ⟨bf, 0, rfl, h.row.1, h.row.2, fun i hi => ?_⟩
  obtain ⟨ci, hc⟩ := h.head i hi
  have hb := h.blk i hi
  exact ⟨_, ci, by rw [Nat.zero_add]; exact hc, (h.reads i hi).mono (by omega) (by omega)⟩

theorem toFacet (lo hi : Nat) (ao : Option Addr) (c : Nat) (xs : List Int) (hn : xs.length ≤ 1048576) (w : World) (hs : SlI w lo hi ao xs) (hh : hi ≤ w.heap.size) :
    Calls Try.prog 103 #[.agg #[.slice ao xs.length c]] w fun e w' => ∃ b, e = .returned (.agg #[.slice (some ⟨b, 0, none⟩) xs.length xs.length]) ∧ w.heap.size ≤ b ∧ b < w'.heap.size ∧
      SlI w' b (b + 1) (some ⟨b, 0, none⟩) xs ∧ Room w' b xs.length ∧ Below w.heap.size w w' := by
  have HS := Lib.hid hs
  clear hs
  go_enter Try.func103, Try.ntmps103
  go_wp2_with fail
  refine (toInt64S lo hi ao c xs hn _ (HS.out.far (((Far.refl _ _ _).alloc _ hh).alloc _ (by simp; omega) |>.alloc _ (by simp; omega))) (by simp; omega)).mono ?_
  rintro e w1 ⟨rfl, hs1, hr1, hsz1, hb1⟩
  obtain ⟨hcA, hfA⟩ := bcell hb1
  have hb2 : Below w.heap.size w w1 := by
    have := hb1.mono (B' := w.heap.size) (by simp; omega)
    (repeat (first | exact Below.refl _ _ | assumption | refine below_dr ?_ _ | refine Below.alloc ?_ (by first | omega | (simp; done) | (simp; omega)) _ | refine Below.setCell ?_ (by first | omega | (simp; done) | (simp; omega)) _ | refine Below.trans ?_ (Below.mono (by assumption) (by first | omega | (simp; done) | (simp; omega)))))
  simp only [World.size_alloc] at hcA hfA hsz1 hs1 hr1
  have HS1 := Lib.hid hs1
  have HR1 := Lib.hid hr1
  have HB1 := Lib.hid hb2
  clear hs1 hr1 hb1 hb2
  go_wp2_with fail
  refine bodyPost_ret (v := .agg #[.slice (some ⟨w.heap.size + 1 + 1 + 1, 0, none⟩) xs.length xs.length]) (by simp [results, Try.results103, go_sem, hcA (w.heap.size + 1) 0 (by omega)]) rfl ⟨_, rfl, by omega, by simp; omega, ?_, ?_, ?_⟩
  · exact HS1.out.far (((Far.refl _ _ _).set _ _ (.inl (by first | omega | (simp; done) | (simp; omega)))).set _ _ (.inl (by first | omega | (simp; done) | (simp; omega))))
  · exact (HR1.out.set _ _ _).set _ _ _
  · exact (HB1.out.setCell (by simp; omega) _).setCell (by simp) _

/-- the first k facets of a row of n have their own corners -/
structure FRow (w : World) (B bf n k : Nat) (g : Nat → Nat) (fs : List (List Int)) : Prop where
  row : w.rowIs bf 82 n (fun j => if j < k then .slice (some ⟨g j, 0, none⟩) (fAt fs j).length (fAt fs j).length else .slice none 0 0)
  blk : ∀ i, i < k → bf < g i ∧ g i < w.heap.size
  inj : ∀ i j, i < j → j < k → g i ≠ g j
  room : ∀ i, i < k → Room w (g i) (fAt fs i).length
  reads : ∀ i, i < k → SlI w (g i) (g i + 1) (some ⟨g i, 0, none⟩) (fAt fs i)
theorem infoFacet : (Try.prog.info? 82).map (fun i => (i.zero, i.size, i.bytes)) = some (some (.agg #[.slice none 0 0]), 1, 24) := by kernel_rfl
theorem run_make_rowF (n : Nat) (h : n ≤ 1048576) (w : World) :
    (Instr.makeSlice 31 (.int .i64 (n : Int)) (.int .i64 (n : Int))).run Try.prog w = .ok (.slice (some ⟨w.heap.size, 0, none⟩) n n) (w.alloc (.cells (madeCells #[.slice none 0 0] n) 82)) := by
  obtain ⟨i, hi, hzz⟩ := Option.map_eq_some_iff.1 infoFacet
  simp only [Prod.mk.injEq] at hzz
  obtain ⟨hz, hs, hb⟩ := hzz
  have hr := Go.run_make (P := Try.prog) w 31 82 i (.agg #[.slice none 0 0]) Try.underlying31 hi hz .i64 .i64 n n (by omega) (Int.le_refl _) (by rw [hb]; omega) (by omega)
  simp only [Int.toNat_natCast, hs, Nat.mul_one] at hr
  exact hr
theorem FRow.put {w w1 : World} {B bf n k b : Nat} {g : Nat → Nat} {fs : List (List Int)} (h : FRow w B bf n k g fs) (hf : bf < w.heap.size) (hb : Below w.heap.size w w1) (h1 : w.heap.size ≤ b) (h2 : b < w1.heap.size)
    (hs : SlI w1 b (b + 1) (some ⟨b, 0, none⟩) (fAt fs k)) (hr : Room w1 b (fAt fs k).length) :
    ∃ g, FRow (w1.setCell ⟨bf, k, none⟩ (.slice (some ⟨b, 0, none⟩) (fAt fs k).length (fAt fs k).length)) B bf n (k + 1) g fs := by
  have hsz := hb.size
  refine ⟨fun j => if j = k then b else g j, ?_, ?_, ?_, ?_, ?_⟩
  · refine ((h.row.of_block (hb.block bf hf)).set k _).congr (fun i _ => ?_)
    show (if i = k then _ else if i < k then _ else _) = (if i < k + 1 then _ else _)
    by_cases hi : i = k
    · subst hi; simp
    · rw [if_neg hi]
      by_cases h3 : i < k
      · rw [if_pos h3, if_pos (by omega), if_neg hi]
      · rw [if_neg h3, if_neg (by omega)]
  · intro i hi
    show bf < (if i = k then b else g i) ∧ (if i = k then b else g i) < _
    by_cases hk : i = k
    · rw [if_pos hk]; simp; omega
    · rw [if_neg hk]
      have := h.blk i (by omega)
      simp; omega
  · intro i j hij hj
    show (if i = k then b else g i) ≠ (if j = k then b else g j)
    rw [if_neg (by omega)]
    by_cases hk : j = k
    · rw [if_pos hk]
      have := h.blk i (by omega)
      omega
    · rw [if_neg hk]
      exact h.inj i j hij (by omega)
  · intro i hi
    show Room _ (if i = k then b else g i) _
    by_cases hk : i = k
    · rw [if_pos hk]; subst hk; exact hr.set _ _ _
    · rw [if_neg hk]
      have := h.blk i (by omega)
      exact ((h.room i (by omega)).far (lo := 0) (Far.below hb (Nat.le_refl _)) (Nat.zero_le _) this.2).set _ _ _
  · intro i hi
    show SlI _ (if i = k then b else g i) ((if i = k then b else g i) + 1) (some ⟨if i = k then b else g i, 0, none⟩) _
    by_cases hk : i = k
    · rw [if_pos hk]; subst hk
      exact hs.far ((Far.refl _ _ _).set _ _ (.inl (by simp; omega)))
    · rw [if_neg hk]
      have := h.blk i (by omega)
      exact (h.reads i (by omega)).far ((Far.below hb (by omega)).set _ _ (.inl (by simp; omega)))
theorem FRow.own {w : World} {B bf : Nat} {g : Nat → Nat} {fs : List (List Int)} (h : FRow w B bf fs.length fs.length g fs) : OwnF w bf w.heap.size bf g fs where
  row := ⟨Nat.le_refl _, h.row.lt⟩
  head := fun i hi => ⟨_, by rw [h.row.cell hi, if_pos hi]⟩
  blk := fun i hi => by have := h.blk i hi; omega
  inj := h.inj
  room := h.room
  reads := h.reads
  cap := fun i hi ai n ci hc => by
    rw [h.row.cell hi, if_pos hi] at hc
    cases hc; exact Nat.le_refl _

set_option maxHeartbeats 1000000 in
theorem toFacetS (lo hi : Nat) (ao : Option Addr) (c : Nat) (fs : List (List Int)) (hn : fs.length ≤ 1048576) (hsh : ∀ i, i < fs.length → (fAt fs i).length ≤ 1048576) (w : World) (hs : SlN w lo hi ao fs) (hh : hi ≤ w.heap.size) :
    Calls Try.prog 48 #[.slice ao fs.length c] w fun e w' => ∃ g, e = .returned (.slice (some ⟨w.heap.size, 0, none⟩) fs.length fs.length) ∧
      OwnF w' w.heap.size w'.heap.size w.heap.size g fs ∧ Below w.heap.size w w' := by
  have HS := Lib.hid hs
  have HSH := Lib.hid hsh
  clear hs hsh
  have hmk := run_make_rowF fs.length hn
  go_enter Try.func48, Try.ntmps48
  go_wp2_with fail
  go_loopw [4] (fun i wr => ∃ (k : Nat) (g : Nat → Nat), k ≤ fs.length ∧ i = .int .i64 k ∧ FRow wr w.heap.size w.heap.size fs.length k g fs ∧ w.heap.size < wr.heap.size ∧ Below w.heap.size w wr) (fun i _ => fs.length - (intOf i).toNat)
  case atStart => exact ⟨0, fun _ => 0, by omega, rfl, ⟨(World.rowIs_made _ _ _ _).congr (fun i _ => by rw [if_neg (by omega)]), by omega, by omega, by omega, by omega⟩, by simp, by (repeat (first | exact Below.refl _ _ | assumption | refine below_dr ?_ _ | refine Below.alloc ?_ (by first | omega | (simp; done) | (simp; omega)) _ | refine Below.setCell ?_ (by first | omega | (simp; done) | (simp; omega)) _ | refine Below.trans ?_ (Below.mono (by assumption) (by first | omega | (simp; done) | (simp; omega)))))⟩
  case round =>
    obtain ⟨k, g, hk, rfl, hrow, hsz, hb⟩ := hrel
    clear hmk
    by_cases hlt : k < fs.length
    · obtain ⟨b, off, rfl, hb1, hb2, hc⟩ := (HS.out.far (Far.below hb hh)) (by omega)
      obtain ⟨ai, ci, c1, s1⟩ := hc k hlt
      have hlk := HSH.out k hlt
      have d1 := hrow.row.cell hlt
      have d2 := hrow.row.frozen k
      rw [if_neg (by omega)] at d1
      have HROW := Lib.hid hrow
      have HS1 := Lib.hid s1
      clear hc hrow s1
      go_wp2_with (go_at_call 103; refine (toFacet lo hi ai ci _ hlk _ HS1.out (by omega)).mono ?_; rintro e w1 ⟨b1, rfl, q1, q2, q3, q4, q5⟩; obtain ⟨hcA, hfA⟩ := bcell q5; have Q3 := Lib.hid q3; have Q4 := Lib.hid q4; have Q5 := Lib.hid q5; clear q3 q4 q5)
      obtain ⟨g', hg'⟩ := HROW.out.put hsz Q5.out q1 q2 Q3.out Q4.out
      have z5 := Q5.out.size
      go_roundw
      case rel => exact ⟨k + 1, g', by omega, by go_num, hg', by simp; omega, (hb.trans (Q5.out.mono hb.size)).setCell (by simp) _⟩
      case measure => simp [intOf]; omega
    · go_wp2_with fail
      go_ret
      have hkk : k = fs.length := by omega
      subst hkk
      exact ⟨g, rfl, hrow.own, hb⟩

theorem OwnF.far {w w' : World} {lo hi bf : Nat} {g : Nat → Nat} {fs : List (List Int)} (h : OwnF w lo hi bf g fs) (hf : Far lo hi w w') : OwnF w' lo hi bf g fs where
  row := h.row
  head := fun i hi => by
    obtain ⟨ci, hc⟩ := h.head i hi
    exact ⟨ci, (hf.cell h.row.1 h.row.2).trans hc⟩
  blk := h.blk
  inj := h.inj
  room := fun i hi => (h.room i hi).far hf (h.blk i hi).1 (h.blk i hi).2.1
  reads := fun i hi => (h.reads i hi).far (hf.mono (h.blk i hi).1 (h.blk i hi).2.1)
  cap := fun i hi ai n ci hc => h.cap i hi ai n ci ((hf.cell h.row.1 h.row.2).symm.trans hc)
theorem OwnF.mono {w : World} {lo hi lo' hi' bf : Nat} {g : Nat → Nat} {fs : List (List Int)} (h : OwnF w lo hi bf g fs) (hl : lo' ≤ lo) (hh : hi ≤ hi') : OwnF w lo' hi' bf g fs where
  row := by have := h.row; omega
  head := h.head
  blk := fun i hi => by have := h.blk i hi; omega
  inj := h.inj
  room := h.room
  reads := h.reads
  cap := h.cap

/-- a net that the walk owns: spots in block bs, the facets' row in block bf -/
structure OwnNet (w : World) (lo hi bs bf : Nat) (g : Nat → Nat) (ps : List Sp) (fs : List (List Int)) : Prop where
  spots : SlP w bs (bs + 1) (some ⟨bs, 0, none⟩) ps
  room : Room w bs (ps.length * 3)
  facets : OwnF w lo hi bf g fs
  low : lo ≤ bs ∧ bs < hi
  apart : bs ≠ bf ∧ ∀ i, i < fs.length → g i ≠ bs
theorem OwnNet.net {w : World} {lo hi bs bf : Nat} {g : Nat → Nat} {ps : List Sp} {fs : List (List Int)} (h : OwnNet w lo hi bs bf g ps fs) : NetAt w lo hi (some ⟨bs, 0, none⟩) (some ⟨bf, 0, none⟩) ps fs :=
  ⟨h.spots.mono h.low.1 (by have := h.low; omega), h.facets.net⟩
theorem OwnNet.far {w w' : World} {lo hi bs bf : Nat} {g : Nat → Nat} {ps : List Sp} {fs : List (List Int)} (h : OwnNet w lo hi bs bf g ps fs) (hf : Far lo hi w w') : OwnNet w' lo hi bs bf g ps fs :=
  ⟨h.spots.far (hf.mono h.low.1 (by have := h.low; omega)), h.room.far hf h.low.1 h.low.2, h.facets.far hf, h.low, h.apart⟩

set_option maxHeartbeats 1000000 in
theorem toNet (lo hi : Nat) (sa fa : Option Addr) (cn cm : Nat) (ps : List Sp) (fs : List (List Int)) (hp : ps.length ≤ 1048576) (hn : fs.length ≤ 1048576) (hsh : ∀ i, i < fs.length → (fAt fs i).length ≤ 1048576) (w : World)
    (hs : NetAt w lo hi sa fa ps fs) (hh : hi ≤ w.heap.size) :
    Calls Try.prog 14 #[netV sa fa ps.length cn fs.length cm] w fun e w' => ∃ bs bf g, e = .returned (netV (some ⟨bs, 0, none⟩) (some ⟨bf, 0, none⟩) ps.length ps.length fs.length fs.length) ∧
      OwnNet w' w.heap.size w'.heap.size bs bf g ps fs ∧ Below w.heap.size w w' := by
  have HS := Lib.hid hs
  have HSH := Lib.hid hsh
  clear hs hsh
  unfold netV
  go_enter Try.func14, Try.ntmps14
  go_wp2_with fail
  refine (toSpotS lo hi sa cn ps hp _ (HS.out.spots.far (((Far.refl _ _ _).alloc _ hh).alloc _ (by first | omega | (simp; done) | (simp; omega)) |>.alloc _ (by first | omega | (simp; done) | (simp; omega)))) (by first | omega | (simp; done) | (simp; omega))).mono ?_
  rintro e w1 ⟨rfl, hs1, hr1, hsz1, hb1⟩
  obtain ⟨hcA, hfA⟩ := bcell hb1
  have hb2 : Below w.heap.size w w1 := by
    have := hb1.mono (B' := w.heap.size) (by simp; omega)
    (repeat (first | exact Below.refl _ _ | assumption | refine below_dr ?_ _ | refine Below.alloc ?_ (by first | omega | (simp; done) | (simp; omega)) _ | refine Below.setCell ?_ (by first | omega | (simp; done) | (simp; omega)) _ | refine Below.trans ?_ (Below.mono (by assumption) (by first | omega | (simp; done) | (simp; omega)))))
  have A1 : OwnC w1 (w.heap.size + 1) #[.slice none 0 0, .slice none 0 0] 33 := ((OwnC.new (by simp)).alloc _).below hb1 (by first | omega | (simp; done) | (simp; omega))
  have A2 : OwnC w1 (w.heap.size + 1 + 1) #[.slice none 0 0, .slice none 0 0] 33 := (OwnC.new (by simp)).below hb1 (by first | omega | (simp; done) | (simp; omega))
  simp only [World.size_alloc] at hcA hfA hsz1 hs1 hr1
  have HS1 := Lib.hid hs1
  have HR1 := Lib.hid hr1
  have HB1 := Lib.hid hb2
  have HA1 := Lib.hid A1
  have HA2 := Lib.hid A2
  clear hs1 hr1 hb1 hb2 A1 A2
  go_wp2_with fail
  refine (toFacetS lo hi fa cm fs hn HSH.out _ (HS.out.facets.far ((Far.below HB1.out hh).set _ _ (.inr (by simp; omega)))) (by simp; omega)).mono ?_
  rintro e w2 ⟨g, rfl, hf2, hb2⟩
  simp only [World.size_setCell] at hf2 hb2 ⊢
  have A1 := (HA1.out.other ⟨w.heap.size + 1 + 1, 0, none⟩ (.slice (some ⟨w.heap.size + 1 + 1 + 1, 0, none⟩) ps.length ps.length) (by simp)).below hb2 (by omega)
  have A2 := (HA2.out.set 0 (.slice (some ⟨w.heap.size + 1 + 1 + 1, 0, none⟩) ps.length ps.length)).below hb2 (by omega)
  have z2 := hb2.size
  simp only [World.size_setCell] at z2
  have hfar : Far (w.heap.size + 1 + 1 + 1) w1.heap.size w1 w2 := ((Far.refl _ _ w1).set _ _ (.inl (by simp))).trans (Far.below hb2 (Nat.le_refl _))
  have HS2 := Lib.hid (HS1.out.far (hfar.mono (Nat.le_refl _) (by omega)))
  have HR2 := Lib.hid (HR1.out.far hfar (Nat.le_refl _) hsz1)
  have HB2 : Hid (Below w.heap.size w w2) := (HB1.out.setCell (by first | omega | (simp; done) | (simp; omega)) _).trans (hb2.mono (by omega))
  have HF2 := Lib.hid hf2
  clear hcA hfA HS1 HR1 HB1 HA1 HA2 hfar hf2 hb2
  have c0 := A1.cell 0
  have c1 := A1.cell 1
  have d0 := A2.cell 0
  have d1 := A2.cell 1
  have e0 := A1.free 0
  have e1 := A1.free 1
  have e2 := A2.free 0
  have e3 := A2.free 1
  simp at c0 c1 d0 d1
  have HA1 := Lib.hid A1
  have HA2 := Lib.hid A2
  clear A1 A2
  go_wp2_with fail
  have hfin : Far (w.heap.size + 1 + 1 + 1) w2.heap.size w2 (((w2.setCell ⟨w.heap.size + 1 + 1, 1, none⟩ (.slice (some ⟨w1.heap.size, 0, none⟩) fs.length fs.length)).setCell ⟨w.heap.size + 1, 0, none⟩ (.slice (some ⟨w.heap.size + 1 + 1 + 1, 0, none⟩) ps.length ps.length)).setCell ⟨w.heap.size + 1, 1, none⟩ (.slice (some ⟨w1.heap.size, 0, none⟩) fs.length fs.length)) :=
    (((Far.refl _ _ w2).set _ _ (.inl (by first | omega | (simp; done) | (simp; omega)))).set _ _ (.inl (by first | omega | (simp; done) | (simp; omega)))).set _ _ (.inl (by first | omega | (simp; done) | (simp; omega)))
  refine bodyPost_ret (v := .agg #[.slice (some ⟨w.heap.size + 1 + 1 + 1, 0, none⟩) ps.length ps.length, .slice (some ⟨w1.heap.size, 0, none⟩) fs.length fs.length]) (by simp [results, Try.results14, go_sem, *]) rfl ⟨_, _, g, rfl, ⟨?_, ?_, ?_, ?_, ?_⟩, ?_⟩
  · exact HS2.out.far (hfin.mono (Nat.le_refl _) (by omega))
  · exact HR2.out.far hfin (Nat.le_refl _) (by omega)
  · exact (HF2.out.far (hfin.mono (by omega) (Nat.le_refl _))).mono (by omega) (by simp)
  · simp; omega
  · refine ⟨by omega, fun i hi => ?_⟩
    have := HF2.out.blk i hi
    omega
  · exact ((HB2.out.setCell (by first | omega | (simp; done) | (simp; omega)) _).setCell (by first | omega | (simp; done) | (simp; omega)) _).setCell (by first | omega | (simp; done) | (simp; omega)) _
end Go.Proofs.Ytbmahankleijkaa

/- Contracts: the sides of a net, the reference's. -/
import Derived.Test.YtbmahankleijkaaValS
import Derived.Test.YtbmahankleijkaaRow
import Derived.Test.YtbmahankleijkaaMark
namespace Go.Fl
/-- what h tells of all corners of the first j facets, in order -/
def colTo (h : Nat → Nat → Int) (fs : List (List Int)) : Nat → List Int
  | 0 => []
  | j + 1 => colTo h fs j ++ (List.range (fAt fs j).length).map (h j)
def colPre (h : Nat → Nat → Int) (fs : List (List Int)) (j k : Nat) : List Int := colTo h fs j ++ (List.range k).map (h j)
theorem colPre_zero (h : Nat → Nat → Int) (fs : List (List Int)) (j : Nat) : colPre h fs j 0 = colTo h fs j := by simp [colPre]
theorem colPre_full (h : Nat → Nat → Int) (fs : List (List Int)) (j : Nat) : colPre h fs j (fAt fs j).length = colTo h fs (j + 1) := rfl
theorem colPre_succ (h : Nat → Nat → Int) (fs : List (List Int)) (j k : Nat) : colPre h fs j (k + 1) = colPre h fs j k ++ [h j k] := by simp [colPre, List.range_succ]
/-- the first corner of a side, its second one, its facet -/
def sideA (fs : List (List Int)) (j k : Nat) : Int := iAt (fAt fs j) k
def sideB (fs : List (List Int)) (j k : Nat) : Int := iAt (fAt fs j) ((k + 1) % (fAt fs j).length)
def sideF (j _k : Nat) : Int := j
end Go.Fl
namespace Go.Proofs.Ytbmahankleijkaa
open Go.RowKit Go.Fl
theorem colTo_len (h : Nat → Nat → Int) (fs : List (List Int)) : ∀ j, (colTo h fs j).length = sumTo fs j
  | 0 => rfl
  | j + 1 => by simp [colTo, sumTo, colTo_len h fs j]
theorem colPre_len (h : Nat → Nat → Int) (fs : List (List Int)) (j k : Nat) : (colPre h fs j k).length = sumTo fs j + k := by simp [colPre, colTo_len]
theorem infoI : (Try.prog.info? 3).map (fun i => (i.zero, i.size, i.bytes)) = some (some (.int .i64 0), 1, 8) := by kernel_rfl

/-- three rows of the walk's own -/
structure Rows3 (w wr : World) (b1 c1 b2 c2 b3 c3 n : Nat) (xs ys zs : List Int) : Prop where
  r1 : ORow wr 2 1 b1 c1 n (xs.map (Value.int .i64))
  r2 : ORow wr 2 1 b2 c2 n (ys.map (Value.int .i64))
  r3 : ORow wr 3 1 b3 c3 n (zs.map (Value.int .i64))
  low : w.heap.size ≤ b1 ∧ w.heap.size ≤ b2 ∧ w.heap.size ≤ b3
  apart : b1 ≠ b2 ∧ b1 ≠ b3 ∧ b2 ≠ b3
  below : Below w.heap.size w wr

theorem Rows3.step {w wr w1 w2 w3 : World} {b1 c1 b2 c2 b3 c3 n d1 d2 d3 e1 e2 e3 : Nat} {xs ys zs : List Int} {x y z : Int} (h : Rows3 w wr b1 c1 b2 c2 b3 c3 n xs ys zs)
    (h1 : ORow w1 2 1 d1 e1 (n + 1) (xs.map (Value.int .i64) ++ #[Value.int .i64 x].toList)) (g1 : d1 = b1 ∨ wr.heap.size < d1) (r1 : Grew b1 wr w1)
    (h2 : ORow w2 2 1 d2 e2 (n + 1) (ys.map (Value.int .i64) ++ #[Value.int .i64 y].toList)) (g2 : d2 = b2 ∨ w1.heap.size < d2) (r2 : Grew b2 w1 w2)
    (h3 : ORow w3 3 1 d3 e3 (n + 1) (zs.map (Value.int .i64) ++ #[Value.int .i64 z].toList)) (g3 : d3 = b3 ∨ w2.heap.size < d3) (r3 : Grew b3 w2 w3) :
    Rows3 w w3 d1 e1 d2 e2 d3 e3 (n + 1) (xs ++ [x]) (ys ++ [y]) (zs ++ [z]) := by
  have l1 := h.r1.lt
  have l2 := h.r2.lt
  have l3 := h.r3.lt
  have m1 := h1.lt
  have m2 := h2.lt
  have m3 := h3.lt
  have s1 := r1.size
  have s2 := r2.size
  have s3 := r3.size
  have hl := h.low
  have ha := h.apart
  have hs := h.below.size
  refine ⟨?_, ?_, ?_, by omega, by omega, ((h.below.trans (r1.below hl.1 hs)).trans (r2.below hl.2.1 (by omega))).trans (r3.below hl.2.2 (by omega))⟩
  · rw [List.map_append]; exact (h1.grew r2 (by omega)).grew r3 (by omega)
  · rw [List.map_append]; exact h2.grew r3 (by omega)
  · rw [List.map_append]; exact h3

set_option maxHeartbeats 2000000 in
theorem l06Sides (lo hi pb : Nat) (sa fa : Option Addr) (sn sc fc : Nat) (fs : List (List Int)) (hn : fs.length ≤ 1048576) (hsh : ∀ i, i < fs.length → (fAt fs i).length ≤ 1048576) (w : World)
    (p0 : w.cell? ⟨pb, 0, none⟩ = some (.slice sa sn sc)) (p1 : w.cell? ⟨pb, 1, none⟩ = some (.slice fa fs.length fc)) (hs : SlN w lo hi fa fs) (hh : hi ≤ w.heap.size) :
    Calls Try.prog 95 #[.pointer (some ⟨pb, 0, none⟩)] w fun e w' => ∃ b1 c1 b2 c2 b3 c3, e = .returned (.tuple #[.slice (some ⟨b1, 0, none⟩) (sumTo fs fs.length) c1, .slice (some ⟨b2, 0, none⟩) (sumTo fs fs.length) c2, .slice (some ⟨b3, 0, none⟩) (sumTo fs fs.length) c3]) ∧
      Rows3 w w' b1 c1 b2 c2 b3 c3 (sumTo fs fs.length) (colTo (sideA fs) fs fs.length) (colTo (sideB fs) fs fs.length) (colTo sideF fs fs.length) := by
  have HS := Lib.hid hs
  have HSH := Lib.hid hsh
  have HP0 := Lib.hid p0
  have HP1 := Lib.hid p1
  clear hs hsh p0 p1
  go_enter Try.func95, Try.ntmps95
  go_wp2_with fail
  go_loopw [5, 6, 7, 8] (fun v1 v2 v3 i wr => ∃ j b1 c1 b2 c2 b3 c3 : Nat, j ≤ fs.length ∧ i = .int .i64 j ∧ v1 = .slice (some ⟨b1, 0, none⟩) (sumTo fs j) c1 ∧ v2 = .slice (some ⟨b2, 0, none⟩) (sumTo fs j) c2 ∧ v3 = .slice (some ⟨b3, 0, none⟩) (sumTo fs j) c3 ∧
    Hid (Rows3 w wr b1 c1 b2 c2 b3 c3 (sumTo fs j) (colTo (sideA fs) fs j) (colTo (sideB fs) fs j) (colTo sideF fs j))) (fun _ _ _ i _ => fs.length - (intOf i).toNat)
  case atStart =>
    refine ⟨0, _, _, _, _, _, _, by omega, rfl, rfl, rfl, rfl, ?_, ?_, ?_, ?_, ?_, ?_⟩
    · exact (ORow.new w _ _).far (lo := 0) (hi := w.heap.size + 1) (((Far.refl _ _ _).alloc _ (by first | omega | (simp; done) | (simp; omega))).alloc _ (by first | omega | (simp; done) | (simp; omega))) (Nat.zero_le _) (Nat.lt_succ_self _)
    · have := ORow.new (w.alloc (.cells #[] 2)) 2 1
      simp only [World.size_alloc] at this
      exact this.far (lo := 0) (hi := w.heap.size + 1 + 1) ((Far.refl _ _ _).alloc _ (by first | omega | (simp; done) | (simp; omega))) (Nat.zero_le _) (Nat.lt_succ_self _)
    · have := ORow.new ((w.alloc (.cells #[] 2)).alloc (.cells #[] 2)) 3 1
      simp only [World.size_alloc] at this
      exact this
    · omega
    · omega
    · (repeat (first | exact Below.refl _ _ | assumption | refine below_dr ?_ _ | refine Below.alloc ?_ (by first | omega | (simp; done) | (simp; omega)) _ | refine Below.setCell ?_ (by first | omega | (simp; done) | (simp; omega)) _ | refine Below.trans ?_ (Below.mono (by assumption) (by first | omega | (simp; done) | (simp; omega)))))
  case round =>
    obtain ⟨j, b1, c1, b2, c2, b3, c3, hj, rfl, rfl, rfl, rfl, HR⟩ := hrel
    have q0 := keep_cell HR.out.below HP0.out
    have q1 := keep_cell HR.out.below HP1.out
    by_cases hlt : j < fs.length
    · obtain ⟨bf, o1, rfl, _, _, hc1⟩ := HS.out (by omega)
      obtain ⟨ai, ci, d0, s1⟩ := hc1 j hlt
      have d1 := keep_cell HR.out.below d0
      have S1 := Lib.hid s1
      have hlk := HSH.out j hlt
      have hsum := sumTo_le HSH.out j (by omega)
      clear d0 hc1 s1
      have k0 : (0 : Int) ≤ (j : Int) := by omega
      have k1 : (j : Int) < (fs.length : Int) := by omega
      go_wp2_with fail
      go_loopw [5, 6, 7, 10] (fun v1 v2 v3 i wr => ∃ k b1 c1 b2 c2 b3 c3 : Nat, k ≤ (fAt fs j).length ∧ i = .int .i64 k ∧ v1 = .slice (some ⟨b1, 0, none⟩) (sumTo fs j + k) c1 ∧ v2 = .slice (some ⟨b2, 0, none⟩) (sumTo fs j + k) c2 ∧ v3 = .slice (some ⟨b3, 0, none⟩) (sumTo fs j + k) c3 ∧
        Hid (Rows3 w wr b1 c1 b2 c2 b3 c3 (sumTo fs j + k) (colPre (sideA fs) fs j k) (colPre (sideB fs) fs j k) (colPre sideF fs j k))) (fun _ _ _ i _ => (fAt fs j).length - (intOf i).toNat)
      case atStart => exact ⟨0, _, _, _, _, _, _, by omega, rfl, rfl, rfl, rfl, by rw [colPre_zero, colPre_zero, colPre_zero]; exact HR⟩
      case round =>
        clear q0 q1 d1 HR
        obtain ⟨k, b1, c1, b2, c2, b3, c3, hk, rfl, rfl, rfl, rfl, HR⟩ := hrel
        by_cases hlt2 : k < (fAt fs j).length
        · obtain ⟨b4, o4, rfl, _, _, hc3⟩ := S1.out (by omega)
          have e1 := keep_cell HR.out.below (hc3 k hlt2)
          have hm : (k + 1) % (fAt fs j).length < (fAt fs j).length := Nat.mod_lt _ (by omega)
          have HC2 := Lib.hid (hc3 _ hm)
          clear hc3
          have t0 : (0 : Int) ≤ (k : Int) := by omega
          have t1 : (k : Int) < ((fAt fs j).length : Int) := by omega
          have mc : (((k + 1) % (fAt fs j).length : Nat) : Int) = ((k : Int) + 1) % ((fAt fs j).length : Int) := by push_cast; rfl
          have m0 : (0 : Int) ≤ ((k : Int) + 1) % ((fAt fs j).length : Int) := by omega
          have m1 : ((k : Int) + 1) % ((fAt fs j).length : Int) < ((fAt fs j).length : Int) := by omega
          have m2 : (((k : Int) + 1) % ((fAt fs j).length : Int)).toNat = (k + 1) % (fAt fs j).length := by omega
          clear mc
          go_wp2_with (first | (at_builtin; refine wpList_app rfl _ _ _ rfl 3 (.int .i64 0) 1 8 Try.underlying106 infoI rfl (by decide) _ #[.int .i64 (j : Int)] 3 rfl (by simp [Value.oneCell']) b3 c3 _ _ rfl rfl (E3b.out) (by omega) (by decide) ?_; intro b3' c3' w3 hr3 hg3 hgr3) | (at_builtin; refine wpList_app rfl _ _ _ rfl 2 (.int .i64 0) 1 8 Try.underlying27 infoInt rfl (by decide) _ #[.int .i64 (iAt (fAt fs j) ((k + 1) % (fAt fs j).length))] 2 rfl (by simp [Value.oneCell']) b2 c2 _ _ rfl rfl (E2.out) (by omega) (by decide) ?_; intro b2' c2' w2 hr2 hg2 hgr2; have E3b := Lib.hid (E3.out.grew hgr2 HR.out.apart.2.2.symm); have E1b := Lib.hid (hr1.grew hgr2 (by have := HR.out.apart; have := HR.out.r2.lt; omega))) | (at_builtin; refine wpList_app rfl _ _ _ rfl 2 (.int .i64 0) 1 8 Try.underlying27 infoInt rfl (by decide) _ #[.int .i64 (iAt (fAt fs j) k)] 2 rfl (by simp [Value.oneCell']) b1 c1 _ _ rfl rfl (HR.out.r1) (by omega) (by decide) ?_; intro b1' c1' w1 hr1 hg1 hgr1; have E2 := Lib.hid (HR.out.r2.grew hgr1 HR.out.apart.1.symm); have E3 := Lib.hid (HR.out.r3.grew hgr1 HR.out.apart.2.1.symm); have e2 := keep_cell (HR.out.below.trans (hgr1.below HR.out.low.1 HR.out.below.size)) HC2.out))
          go_roundw
          case rel =>
            refine ⟨k + 1, _, _, _, _, _, _, by omega, by go_num, rfl, rfl, rfl, ?_⟩
            rw [colPre_succ, colPre_succ, colPre_succ]
            exact HR.out.step hr1 hg1 hgr1 hr2 hg2 hgr2 hr3 hg3 hgr3
          case measure => simp [intOf]; omega
        · have hkn : k = (fAt fs j).length := by omega
          subst hkn
          go_wp2_with fail
          go_roundw
          case rel => exact ⟨j + 1, _, _, _, _, _, _, by omega, by go_num, rfl, rfl, rfl, HR⟩
          case measure => simp [intOf]; omega
    · go_wp2_with fail
      have hjn : j = fs.length := by omega
      subst hjn
      refine bodyPost_ret (v := .tuple #[.slice (some ⟨b1, 0, none⟩) (sumTo fs fs.length) c1, .slice (some ⟨b2, 0, none⟩) (sumTo fs fs.length) c2, .slice (some ⟨b3, 0, none⟩) (sumTo fs fs.length) c3]) (by simp [results, Try.results95, go_sem]) rfl ⟨_, _, _, _, _, _, rfl, HR.out⟩
end Go.Proofs.Ytbmahankleijkaa

/- What EaseNet answers, as a plain function; and the contracts that close it. -/
import Derived.Test.YtbmahankleijkaaOthB
import Derived.Test.YtbmahankleijkaaBackD
import Derived.Test.YtbmahankleijkaaOwnS
namespace Go.Proofs.Ytbmahankleijkaa
open Go.RowKit Go.Fl
/-- the other corners of all edges of corner i, and of its borders -/
def othA (fs : List (List Int)) (x : Int) : List Int := othTo (fun _ => true) (colA fs) (colB fs) (firsts (colA fs) (colB fs) (sumTo fs fs.length)) x (firsts (colA fs) (colB fs) (sumTo fs fs.length)).length
def othBd (fs : List (List Int)) (x : Int) : List Int := othTo (fun s => decide (secF (colA fs) (colB fs) (colF fs) (sumTo fs fs.length) s < 0)) (colA fs) (colB fs) (firsts (colA fs) (colB fs) (sumTo fs fs.length)) x (firsts (colA fs) (colB fs) (sumTo fs fs.length)).length
def ezP (ps : List Sp) (fs : List (List Int)) (t i : Nat) : Sp :=
  if (othBd fs i).length = 0 then spAdd (pAt ps i) (spMul (spSub (meanQ (qsOf ps (othA fs i))) (pAt ps i)) t) else pAt ps i
def ezL (ps : List Sp) (fs : List (List Int)) (t : Nat) : List Sp := (List.range ps.length).map (ezP ps fs t)
theorem ezL_len (ps : List Sp) (fs : List (List Int)) (t : Nat) : (ezL ps fs t).length = ps.length := by simp [ezL]
theorem ezL_at {ps : List Sp} {fs : List (List Int)} {t i : Nat} (h : i < ps.length) : pAt (ezL ps fs t) i = ezP ps fs t i := by simp [pAt, ezL, h]
def in01 (t : Nat) : Bool := fge t 0 && fle t 1065353216
noncomputable def ezO (ps : List Sp) (fs : List (List Int)) (t : Nat) : Bool := okN ps fs && in01 t && okN (ezL ps fs t) fs
noncomputable def ezRP (ps : List Sp) (fs : List (List Int)) (t : Nat) : List Sp := if ezO ps fs t then ezL ps fs t else []
noncomputable def ezRF (ps : List Sp) (fs : List (List Int)) (t : Nat) : List (List Int) := if ezO ps fs t then fs else []
theorem ez_len1 {ps : List Sp} {fs : List (List Int)} {t : Nat} (h : ps.length ≤ 1048576) : (ezRP ps fs t).length ≤ 1048576 := by
  unfold ezRP; split
  · rw [ezL_len]; exact h
  · simp
theorem ez_len2 {ps : List Sp} {fs : List (List Int)} {t : Nat} (h : fs.length ≤ 1048576) : (ezRF ps fs t).length ≤ 1048576 := by
  unfold ezRF; split
  · exact h
  · simp
theorem ez_len3 {ps : List Sp} {fs : List (List Int)} {t : Nat} (h : ∀ i, i < fs.length → (fAt fs i).length ≤ 1048576) : ∀ i, i < (ezRF ps fs t).length → (fAt (ezRF ps fs t) i).length ≤ 1048576 := by
  unfold ezRF; split
  · exact h
  · intro i hi; simp at hi
theorem RetN.noE {ps : List Sp} {fs : List (List Int)} {t : Nat} {w w' : World} (h : ezO ps fs t = false) (hb : Below w.heap.size w w') : RetN (ezRP ps fs t) (ezRF ps fs t) (ezO ps fs t) w (.returned (.tuple #[.agg #[.slice none 0 0, .slice none 0 0], .bool false])) w' := by
  have h1 : ezRP ps fs t = [] := by simp [ezRP, h]
  have h2 : ezRF ps fs t = [] := by simp [ezRF, h]
  rw [h1, h2, h]
  exact ⟨⟨none, none, 0, 0, rfl, ONet.nil _ _ _⟩, hb⟩
theorem edge_ne {fs : List (List Int)} (h : SideOk fs) : ∀ k, k < (firsts (colA fs) (colB fs) (sumTo fs fs.length)).length → iAt (colA fs) ((firsts (colA fs) (colB fs) (sumTo fs fs.length)).getD k 0) ≠ iAt (colB fs) ((firsts (colA fs) (colB fs) (sumTo fs fs.length)).getD k 0) := fun k hk => by
  refine h.ne _ (firsts_lt (A := colA fs) (B := colB fs) _ _ ?_)
  rw [List.getD_eq_getElem?_getD, List.getElem?_eq_getElem hk]
  exact List.getElem_mem hk
theorem oth_edges {fs : List (List Int)} (h : SideOk fs) (x : Int) : ∃ m, (prL false fs).length = 2 * m ∧ othP (prL false fs) x m = othA fs x := by
  obtain ⟨m, hm⟩ := prTo_even (fun _ => true) (colA fs) (colB fs) (firsts (colA fs) (colB fs) (sumTo fs fs.length)) (firsts (colA fs) (colB fs) (sumTo fs fs.length)).length
  rw [prL_edges] at hm
  refine ⟨m, hm, ?_⟩
  rw [← prL_edges] at hm ⊢
  exact othP_prTo (edge_ne h) _ m (Nat.le_refl _) hm
theorem oth_borders {fs : List (List Int)} (h : SideOk fs) (x : Int) : ∃ m, (prL true fs).length = 2 * m ∧ othP (prL true fs) x m = othBd fs x := by
  obtain ⟨m, hm⟩ := prTo_even (fun s => decide (secF (colA fs) (colB fs) (colF fs) (sumTo fs fs.length) s < 0)) (colA fs) (colB fs) (firsts (colA fs) (colB fs) (sumTo fs fs.length)) (firsts (colA fs) (colB fs) (sumTo fs fs.length)).length
  rw [prL_borders h] at hm
  refine ⟨m, hm, ?_⟩
  rw [← prL_borders h] at hm ⊢
  exact othP_prTo (edge_ne h) _ m (Nat.le_refl _) hm

theorem oth_mem {p : Nat → Bool} {A B : List Int} {L : List Nat} {x : Int} : ∀ k, k ≤ L.length → ∀ v ∈ othTo p A B L x k, ∃ i, i < L.length ∧ (v = iAt A (L.getD i 0) ∨ v = iAt B (L.getD i 0))
  | 0, _, v, hv => by cases hv
  | k + 1, hk, v, hv => by
    rw [othTo, List.mem_append] at hv
    rcases hv with hv | hv
    · exact oth_mem k (by omega) v hv
    · split at hv
      · unfold othE at hv
        split at hv
        · exact ⟨k, by omega, .inr (by simpa using hv)⟩
        · split at hv
          · exact ⟨k, by omega, .inl (by simpa using hv)⟩
          · cases hv
      · cases hv
theorem oth_in {ps : List Sp} {fs : List (List Int)} (h : OkNet ps fs (colA fs) (colB fs)) (x : Int) : InN ps.length (othA fs x) := fun k hk => by
  have hm : iAt (othA fs x) k ∈ othA fs x := by
    unfold iAt; rw [List.getD_eq_getElem?_getD, List.getElem?_eq_getElem hk]; exact List.getElem_mem hk
  obtain ⟨i, hi, hv⟩ := oth_mem _ (Nat.le_refl _) _ hm
  have hlt : (firsts (colA fs) (colB fs) (sumTo fs fs.length)).getD i 0 < sumTo fs fs.length := by
    refine firsts_lt (A := colA fs) (B := colB fs) _ _ ?_
    rw [List.getD_eq_getElem?_getD, List.getElem?_eq_getElem hi]
    exact List.getElem_mem hi
  generalize (firsts (colA fs) (colB fs) (sumTo fs fs.length)).getD i 0 = t at hlt hv
  obtain ⟨j, k2, h1, h2, rfl⟩ := colTo_of (sideA fs) fs fs.length t hlt
  have hA : iAt (colA fs) (sumTo fs j + k2) = sideA fs j k2 := (colTo_at (sideA fs) fs fs.length j k2 h1 h2).2
  have hB : iAt (colB fs) (sumTo fs j + k2) = sideB fs j k2 := (colTo_at (sideB fs) fs fs.length j k2 h1 h2).2
  rcases hv with hv | hv
  · rw [hv, hA]
    exact (h.facets j h1).inN k2 h2
  · rw [hv, hB]
    exact (h.facets j h1).inN _ (Nat.mod_lt _ (by omega))
theorem OkNet.sum {ps : List Sp} {fs : List (List Int)} {A B : List Int} (h : OkNet ps fs A B) : sumTo fs fs.length ≤ 2048 := by
  have key : ∀ j, j ≤ fs.length → sumTo fs j ≤ j * 8 := by
    intro j
    induction j with
    | zero => intro _; simp [sumTo]
    | succ j ih =>
      intro hj
      have h1 := ih (by omega)
      have h2 := (h.facets j (by omega)).2.1
      simp only [sumTo]; omega
  have h1 := key fs.length (Nat.le_refl _)
  have h2 := h.f256
  omega
theorem othA_len {ps : List Sp} {fs : List (List Int)} (h : OkNet ps fs (colA fs) (colB fs)) (x : Int) : (othA fs x).length ≤ 2048 :=
  Nat.le_trans (Nat.le_trans (othTo_len _ _ _ _ _ _) (firsts_lenA fs)) (OkNet.sum h)
theorem can_one : can .f32 1065353216 = 1065353216 := can_of_not (by decide +kernel)
theorem shareS (x : Nat) (w : World) : Calls Try.prog 81 #[.float .f32 x] w fun e w' => e = .returned (.bool (in01 (can .f32 x))) ∧ ∃ n, w' = w.drewN n := by
  have h1 : (FloatKind.f32.format.order x 0 == some .gt || FloatKind.f32.format.order x 0 == some .eq) = fge (can .f32 x) 0 := F32.ge (F32.mk x) F32.zero
  have h2 : (FloatKind.f32.format.order x 1065353216 == some .lt || FloatKind.f32.format.order x 1065353216 == some .eq) = fle (can .f32 x) 1065353216 := F32.le (F32.mk x) (F32.lit (by decide +kernel))
  have HI : Hid (in01 (can .f32 x) = (fge (can .f32 x) 0 && fle (can .f32 x) 1065353216)) := Lib.hid rfl
  cases ha : fge (can .f32 x) 0 <;> cases hb : fle (can .f32 x) 1065353216
  all_goals
    rw [ha] at h1
    rw [hb] at h2
    have HA := Lib.hid ha
    have HB := Lib.hid hb
    clear ha hb
    go_enter Try.func81, Try.ntmps81
    go_wp2_with fail
    go_ret
    rw [HI.out, HA.out, HB.out]
    exact ⟨rfl, 0, rfl⟩
theorem timeB (x : Nat) (w : World) : Calls Try.prog 87 #[.float .f32 x] w fun e w' => e = .returned (.bool (in01 (can .f32 x))) ∧ ∃ n, w' = w.drewN n := by
  have h1 : (FloatKind.f32.format.order x 0 == some .gt || FloatKind.f32.format.order x 0 == some .eq) = fge (can .f32 x) 0 := F32.ge (F32.mk x) F32.zero
  have h2 : (FloatKind.f32.format.order x 1065353216 == some .lt || FloatKind.f32.format.order x 1065353216 == some .eq) = fle (can .f32 x) 1065353216 := F32.le (F32.mk x) (F32.lit (by decide +kernel))
  have HI : Hid (in01 (can .f32 x) = (fge (can .f32 x) 0 && fle (can .f32 x) 1065353216)) := Lib.hid rfl
  cases ha : fge (can .f32 x) 0 <;> cases hb : fle (can .f32 x) 1065353216
  all_goals
    rw [ha] at h1
    rw [hb] at h2
    have HA := Lib.hid ha
    have HB := Lib.hid hb
    clear ha hb
    go_enter Try.func87, Try.ntmps87
    go_wp2_with fail
    go_ret
    rw [HI.out, HA.out, HB.out]
    exact ⟨rfl, 0, rfl⟩

set_option maxHeartbeats 1000000 in
set_option maxRecDepth 100000 in
theorem giveS (lo hi : Nat) (sa fa : Option Addr) (sc fc : Nat) (ps : List Sp) (fs : List (List Int)) (hp : ps.length ≤ 1048576) (hn : fs.length ≤ 1048576) (hsh : ∀ i, i < fs.length → (fAt fs i).length ≤ 1048576) (w : World)
    (hs : NetAt w lo hi sa fa ps fs) (hh : hi ≤ w.heap.size) :
    Calls Try.prog 86 #[.agg #[.slice sa ps.length sc, .slice fa fs.length fc]] w fun e w' => e = .returned (.tuple #[if okN ps fs then .agg #[.slice sa ps.length sc, .slice fa fs.length fc] else .agg #[.slice none 0 0, .slice none 0 0], .bool (okN ps fs)]) ∧ Below w.heap.size w w' := by
  have hA : Far lo hi w ((w.alloc (.cells #[.slice sa ps.length sc, .slice fa fs.length fc] 33)).alloc (.cells #[.slice none 0 0, .slice none 0 0] 33)) := ((Far.refl _ _ _).alloc _ hh).alloc _ (by simp; omega)
  have A0 : OwnC ((w.alloc (.cells #[.slice sa ps.length sc, .slice fa fs.length fc] 33)).alloc (.cells #[.slice none 0 0, .slice none 0 0] 33)) w.heap.size #[.slice sa ps.length sc, .slice fa fs.length fc] 33 := (OwnC.new rfl).alloc _
  have R0 : OwnC ((w.alloc (.cells #[.slice sa ps.length sc, .slice fa fs.length fc] 33)).alloc (.cells #[.slice none 0 0, .slice none 0 0] 33)) (w.heap.size + 1) #[.slice none 0 0, .slice none 0 0] 33 := OwnC.new (by simp)
  have HBA : Hid (Below w.heap.size w ((w.alloc (.cells #[.slice sa ps.length sc, .slice fa fs.length fc] 33)).alloc (.cells #[.slice none 0 0, .slice none 0 0] 33))) := by
    show Below _ _ _
    (repeat (first | exact Below.refl _ _ | assumption | refine below_dr ?_ _ | refine Below.alloc ?_ (by first | omega | (simp; done) | (simp; omega)) _ | refine Below.setCell ?_ (by first | omega | (simp; done) | (simp; omega)) _ | refine Below.trans ?_ (Below.mono (by assumption) (by first | omega | (simp; done) | (simp; omega)))))
  have IS := Lib.hid (l06Is lo hi w.heap.size sa fa sc fc ps fs hp hn hsh _ (A0.cell 0) (A0.cell 1) (hs.far hA) (by simp; omega))
  have HA0 := Lib.hid A0
  have HR0 := Lib.hid R0
  clear hs hsh A0 R0 hA
  cases hv : okN ps fs
  all_goals
    have HV : Hid (dec (OkNet ps fs (colA fs) (colB fs)) = _) := Lib.hid hv
    clear hv
    go_enter Try.func86, Try.ntmps86
    go_wp2_with (go_at_call 44; refine IS.out.mono ?_; rintro e w3 ⟨rfl, hb3⟩; rw [HV.out]; have A3 := HA0.out.below hb3 (by simp; omega); have a0 := A3.cell 0; have a1 := A3.cell 1; have R3 := HR0.out.below hb3 (by simp); have r0 := R3.cell 0; have r1 := R3.cell 1; have g0 := R3.free 0; have g1 := R3.free 1; simp at a0 a1 r0 r1)
  · have R := (R3.set 0 (.slice none 0 0)).set 1 (.slice none 0 0)
    have q0 := R.cell 0
    have q1 := R.cell 1
    simp at q0 q1
    refine bodyPost_ret (v := .tuple #[.agg #[.slice none 0 0, .slice none 0 0], .bool false]) (by simp [results, Try.results86, go_sem, *]) rfl ⟨rfl, ?_⟩
    exact ((HBA.out.trans (hb3.mono (by simp; omega))).setCell (p := ⟨w.heap.size + 1, 0, none⟩) (by simp) (.slice none 0 0)).setCell (p := ⟨w.heap.size + 1, 1, none⟩) (by simp) (.slice none 0 0)
  · have R := (R3.set 0 (.slice sa ps.length sc)).set 1 (.slice fa fs.length fc)
    have q0 := R.cell 0
    have q1 := R.cell 1
    simp at q0 q1
    refine bodyPost_ret (v := .tuple #[.agg #[.slice sa ps.length sc, .slice fa fs.length fc], .bool true]) (by simp [results, Try.results86, go_sem, *]) rfl ⟨rfl, ?_⟩
    exact ((HBA.out.trans (hb3.mono (by simp; omega))).setCell (p := ⟨w.heap.size + 1, 0, none⟩) (by simp) (.slice sa ps.length sc)).setCell (p := ⟨w.heap.size + 1, 1, none⟩) (by simp) (.slice fa fs.length fc)

set_option maxHeartbeats 1000000 in
set_option maxRecDepth 100000 in
theorem giveB (lo hi : Nat) (sa fa : Option Addr) (sc fc : Nat) (ps : List Sp) (fs : List (List Int)) (hp : ps.length ≤ 1048576) (hn : fs.length ≤ 1048576) (hsh : ∀ i, i < fs.length → (fAt fs i).length ≤ 1048576) (w : World)
    (hs : NetAt w lo hi sa fa ps fs) (hca : SlC w lo hi fa fs) (hh : hi ≤ w.heap.size) :
    Calls Try.prog 94 #[.agg #[.slice sa ps.length sc, .slice fa fs.length fc]] w fun e w' => e = .returned (.tuple #[if okN ps fs then .agg #[.slice sa ps.length sc, .slice fa fs.length fc] else .agg #[.slice none 0 0, .slice none 0 0], .bool (okN ps fs)]) ∧ Below w.heap.size w w' := by
  have hA : Far lo hi w ((w.alloc (.cells #[.slice sa ps.length sc, .slice fa fs.length fc] 33)).alloc (.cells #[.slice none 0 0, .slice none 0 0] 33)) := ((Far.refl _ _ _).alloc _ hh).alloc _ (by simp; omega)
  have A0 : OwnC ((w.alloc (.cells #[.slice sa ps.length sc, .slice fa fs.length fc] 33)).alloc (.cells #[.slice none 0 0, .slice none 0 0] 33)) w.heap.size #[.slice sa ps.length sc, .slice fa fs.length fc] 33 := (OwnC.new rfl).alloc _
  have R0 : OwnC ((w.alloc (.cells #[.slice sa ps.length sc, .slice fa fs.length fc] 33)).alloc (.cells #[.slice none 0 0, .slice none 0 0] 33)) (w.heap.size + 1) #[.slice none 0 0, .slice none 0 0] 33 := OwnC.new (by simp)
  have HBA : Hid (Below w.heap.size w ((w.alloc (.cells #[.slice sa ps.length sc, .slice fa fs.length fc] 33)).alloc (.cells #[.slice none 0 0, .slice none 0 0] 33))) := by
    show Below _ _ _
    (repeat (first | exact Below.refl _ _ | assumption | refine below_dr ?_ _ | refine Below.alloc ?_ (by first | omega | (simp; done) | (simp; omega)) _ | refine Below.setCell ?_ (by first | omega | (simp; done) | (simp; omega)) _ | refine Below.trans ?_ (Below.mono (by assumption) (by first | omega | (simp; done) | (simp; omega)))))
  have IS := Lib.hid (validNet lo hi sa fa sc fc ps fs hp hn hsh _ (hs.far hA) (hca.far hA) (by simp; omega))
  have HA0 := Lib.hid A0
  have HR0 := Lib.hid R0
  clear hs hsh A0 R0 hA hca
  unfold netV at *
  cases hv : okN ps fs
  all_goals
    have HV : Hid (dec (OkNet ps fs (colA fs) (colB fs)) = _) := Lib.hid hv
    clear hv
    go_enter Try.func94, Try.ntmps94
    go_wp2_with (go_at_call 49; refine IS.out.mono ?_; rintro e w3 ⟨rfl, hb3⟩; rw [HV.out]; have A3 := HA0.out.below hb3 (by simp; omega); have a0 := A3.cell 0; have a1 := A3.cell 1; have R3 := HR0.out.below hb3 (by simp); have r0 := R3.cell 0; have r1 := R3.cell 1; have g0 := R3.free 0; have g1 := R3.free 1; simp at a0 a1 r0 r1)
  · have R := (R3.set 0 (.slice none 0 0)).set 1 (.slice none 0 0)
    have q0 := R.cell 0
    have q1 := R.cell 1
    simp at q0 q1
    refine bodyPost_ret (v := .tuple #[.agg #[.slice none 0 0, .slice none 0 0], .bool false]) (by simp [results, Try.results94, go_sem, *]) rfl ⟨rfl, ?_⟩
    exact ((HBA.out.trans (hb3.mono (by simp; omega))).setCell (p := ⟨w.heap.size + 1, 0, none⟩) (by simp) (.slice none 0 0)).setCell (p := ⟨w.heap.size + 1, 1, none⟩) (by simp) (.slice none 0 0)
  · have R := (R3.set 0 (.slice sa ps.length sc)).set 1 (.slice fa fs.length fc)
    have q0 := R.cell 0
    have q1 := R.cell 1
    simp at q0 q1
    refine bodyPost_ret (v := .tuple #[.agg #[.slice sa ps.length sc, .slice fa fs.length fc], .bool true]) (by simp [results, Try.results94, go_sem, *]) rfl ⟨rfl, ?_⟩
    exact ((HBA.out.trans (hb3.mono (by simp; omega))).setCell (p := ⟨w.heap.size + 1, 0, none⟩) (by simp) (.slice sa ps.length sc)).setCell (p := ⟨w.heap.size + 1, 1, none⟩) (by simp) (.slice fa fs.length fc)
end Go.Proofs.Ytbmahankleijkaa

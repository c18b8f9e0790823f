/- Contract: a net of its own, the reference's. What EaseNet answers, as a plain function; and the contracts that close it. Half a number: divided by 2 or times 0.5, it is the same. -/
import Derived.Test.YtkjljajjjhfklaaNj18
import Derived.Deep.RegionLaw
import Derived.Deep.Cut
import Derived.Deep.CutRange
import Derived.Test.YtkjljajjjhfklaaNj16
import Derived.Test.YtkjljajjjhfklaaNj17
import Derived.Test.YtkjljajjjhfklaaNj01
namespace Go.Proofs.Ytkjljajjjhfklaa
open Go.RowKit Go.Fl

theorem ORow.drewW {w : World} {e : TypeId} {size b cap n : Nat} {cs : List Value} (h : ORow w e size b cap n cs) : ORow w.drew e size b cap n cs := h
theorem ORow0.nil (w : World) (e : TypeId) (size : Nat) : ORow0 w e size (.slice none 0 0) 0 [] := ⟨by simp, .inl ⟨rfl, rfl⟩⟩
theorem ORow0.below {w w' : World} {e : TypeId} {size n : Nat} {v : Value} {cs : List Value} (h : ORow0 w e size v n cs) (hb : Below w.heap.size w w') : ORow0 w' e size v n cs := by
  obtain ⟨q1, q2⟩ := h
  refine ⟨q1, ?_⟩
  rcases q2 with h0 | ⟨g, c, cur, hv, hl, hg, r⟩
  · exact .inl h0
  · refine .inr ⟨g, c, cur, hv, hl, ?_, r⟩
    have hlt : g < w.heap.size := by
      rcases Nat.lt_or_ge g w.heap.size with h | h
      · exact h
      · rw [Array.getElem?_eq_none h] at hg; cases hg
    exact (hb.block g hlt).trans hg
theorem ORow0.set {w : World} {e : TypeId} {size n : Nat} {v : Value} {cs : List Value} (h : ORow0 w e size v n cs) (b i : Nat) (u : Value) (hb : v.ownBlock ≠ some b) : ORow0 (w.setCell ⟨b, i, none⟩ u) e size v n cs := by
  obtain ⟨q1, q2⟩ := h
  refine ⟨q1, ?_⟩
  rcases q2 with h0 | ⟨g, c, cur, hv, hl, hg, r⟩
  · exact .inl h0
  · refine .inr ⟨g, c, cur, hv, hl, ?_, r⟩
    rw [Below.heap_setCell _ _ _ _ (by intro e; apply hb; rw [hv]; simp [Value.ownBlock]; exact e)]
    exact hg
theorem ORow0.lt {w : World} {e : TypeId} {size n : Nat} {v : Value} {cs : List Value} (h : ORow0 w e size v n cs) {b : Nat} (hv : v.ownBlock = some b) : b < w.heap.size := by
  obtain ⟨q1, q2⟩ := h
  rcases q2 with ⟨rfl, _⟩ | ⟨g, c, cur, rfl, hl, hg, r⟩
  · cases hv
  · have : g = b := by simpa [Value.ownBlock] using hv
    subst this
    rcases Nat.lt_or_ge g w.heap.size with h | h
    · exact h
    · rw [Array.getElem?_eq_none h] at hg; cases hg
theorem ORow0.form {w : World} {e : TypeId} {size n : Nat} {v : Value} {cs : List Value} (h : ORow0 w e size v n cs) (hn : 0 < n) : ∃ b cap, v = .slice (some ⟨b, 0, none⟩) n cap ∧ ORow w e size b cap n cs := by
  obtain ⟨q1, q2⟩ := h
  rcases q2 with ⟨_, h0⟩ | ⟨g, c, cur, rfl, hl, hg, r⟩
  · omega
  · exact ⟨g, c, rfl, q1, .inr ⟨g, c, cur, rfl, Nat.le_refl _, hg, r⟩⟩
theorem ORow0.isSlice {w : World} {e : TypeId} {size n : Nat} {v : Value} {cs : List Value} (h : ORow0 w e size v n cs) : v.oneCell' = true := by
  obtain ⟨q1, q2⟩ := h
  rcases q2 with ⟨rfl, _⟩ | ⟨g, c, cur, rfl, _⟩ <;> rfl
theorem OwnF.lower {w : World} {lo lo' hi bf : Nat} {g : Nat → Nat} {fs : List (List Int)} (h : OwnF w lo hi bf g fs) (hl : lo' ≤ lo) : OwnF w lo' hi bf g fs :=
  ⟨⟨Nat.le_trans hl h.row.1, h.row.2⟩, h.head, fun i hi => ⟨Nat.le_trans hl (h.blk i hi).1, (h.blk i hi).2⟩, h.inj, h.room, h.reads, h.cap⟩
theorem OwnNet.lower {w : World} {lo lo' hi bs bf : Nat} {g : Nat → Nat} {ps : List Sp} {fs : List (List Int)} (h : OwnNet w lo hi bs bf g ps fs) (hl : lo' ≤ lo) : OwnNet w lo' hi bs bf g ps fs :=
  ⟨h.spots, h.room, h.facets.lower hl, ⟨Nat.le_trans hl h.low.1, h.low.2⟩, h.apart⟩
/-- where the copying of facets stands -/
def CpI (w5 wr : World) (ob : Nat) (hd : Value) (fs : List (List Int)) (j : Nat) : Prop :=
  ∃ v g cs, ORow0 wr 38 1 v j cs ∧ FR wr w5.heap.size v g fs j cs ∧ (∀ b, v.ownBlock = some b → w5.heap.size ≤ b) ∧ OwnC wr ob #[hd, v] 27 ∧ Ch (fun c => c = ob) w5 wr

theorem keep_alloc {w : World} {b o : Nat} {v : Value} (ob : Obj) (h : w.cell? ⟨b, o, none⟩ = some v) : (w.alloc ob).cell? ⟨b, o, none⟩ = some v := keep_cell (Below.alloc (Below.refl _ _) (Nat.le_refl _) _) h
theorem CpI.step {w5 wr w6 w7 : World} {ob : Nat} {hd : Value} {fs : List (List Int)} {j : Nat} {v : Value} {g : Nat → Nat} {cs : List Value} {b6 c6 b7 c7 : Nat} (hl : cs.length = j) (hrow : ORow0 wr 38 1 v j cs) (hfr : FR wr w5.heap.size v g fs j cs)
    (hvb : ∀ b, v.ownBlock = some b → w5.heap.size ≤ b) (hown : OwnC wr ob #[hd, v] 27) (hch : Ch (fun c => c = ob) w5 wr) (hob : ob < w5.heap.size) (h6 : Below wr.heap.size wr w6) (r6 : ORow w6 2 1 b6 c6 (fAt fs j).length ((fAt fs j).map (Value.int .i64))) (hb6 : wr.heap.size ≤ b6)
    (hg7 : (w6.alloc (.cells #[.slice (some ⟨b6, 0, none⟩) (fAt fs j).length c6] 38)).grownBy w7 v.ownBlock)
    (r7 : ORow w7 38 1 b7 c7 (j + 1) (cs ++ [.slice (some ⟨b6, 0, none⟩) (fAt fs j).length c6])) (hb7 : v.ownBlock = some b7 ∨ b7 = w6.heap.size + 1) :
    CpI w5 (w7.setCell ⟨ob, 1, none⟩ (.slice (some ⟨b7, 0, none⟩) (j + 1) c7)) ob hd fs (j + 1) := by
  have z5 := hch.size
  have z6 := h6.size
  have z7 : w6.heap.size + 1 ≤ w7.heap.size := by have := hg7.size; simpa using this
  have hbo : w5.heap.size ≤ b7 := by
    rcases hb7 with h | h
    · exact hvb _ h
    · omega
  have hne : ∀ c, c < w6.heap.size → v.ownBlock ≠ some c → w7.heap[c]? = w6.heap[c]? := fun c hc hv => (hg7.block c (by simp; omega) (fun e => hv e.symm)).trans (Below.heap_alloc _ _ _ hc)
  have hvo : v.ownBlock ≠ some ob := fun e => by have := hvb _ e; omega
  have hown7 : OwnC w7 ob #[hd, v] 27 := (hne ob (by omega) hvo).trans (hown.below h6 (by omega))
  refine ⟨.slice (some ⟨b7, 0, none⟩) (j + 1) c7, fun i => if i = j then b6 else g i, _, ORow0.set r7.row0 _ _ _ (by simp [Value.ownBlock]; omega), FR.set ?_ _ _ _ hob, fun b e => ?_, (hown7.set 1 _).congr rfl, ?_⟩
  · refine (hfr.below h6).step hl (by omega) (fun i hi => by have := (hfr.blk i hi).2.1; omega) (fun e => by have := ORow0.lt hrow e; omega) r6 (by omega) hne ?_
    rcases hb7 with h | h
    · exact .inl (by rw [h]; rfl)
    · exact .inr ⟨b7, rfl, by omega⟩
  · simp [Value.ownBlock] at e; omega
  · have c1 : Ch (fun c => c = ob) w5 w6 := hch.trans (P' := fun _ => False) (Ch.below h6) (fun b hb => hb.elim)
    have c2 : Ch (fun c => v.ownBlock = some c) w6 w7 := ⟨hg7.os, hg7.tape, hg7.output, by omega, hne⟩
    have c3 : Ch (fun c => c = ob) w5 w7 := c1.trans c2 (fun b hb => .inr (hvb b hb))
    exact c3.trans (P' := fun c => c = ob) (Ch.set _ _ _ rfl) (fun b hb => .inl hb)

end Go.Proofs.Ytkjljajjjhfklaa

namespace Go.Proofs.Ytkjljajjjhfklaa
open Go.RowKit Go.Fl
/-- the other corners of all edges of corner i, and of its borders -/
def othA (fs : List (List Int)) (x : Int) : List Int := othTo (fun _ => true) (colA fs) (colB fs) (firsts (colA fs) (colB fs) (sumTo fs fs.length)) x (firsts (colA fs) (colB fs) (sumTo fs fs.length)).length
def othBd (fs : List (List Int)) (x : Int) : List Int := othTo (fun s => decide (secF (colA fs) (colB fs) (colF fs) (sumTo fs fs.length) s < 0)) (colA fs) (colB fs) (firsts (colA fs) (colB fs) (sumTo fs fs.length)) x (firsts (colA fs) (colB fs) (sumTo fs fs.length)).length
def ezP (ps : List Sp) (fs : List (List Int)) (t i : Nat) : Sp :=
  if (othBd fs i).length = 0 then spAdd (pAt ps i) (spMul (spSub (meanQ (qsOf ps (othA fs i))) (pAt ps i)) t) else pAt ps i
def ezL (ps : List Sp) (fs : List (List Int)) (t : Nat) : List Sp := (List.range ps.length).map (ezP ps fs t)
theorem ezL_len (ps : List Sp) (fs : List (List Int)) (t : Nat) : (ezL ps fs t).length = ps.length := by simp [ezL]
theorem ezL_at {ps : List Sp} {fs : List (List Int)} {t i : Nat} (h : i < ps.length) : pAt (ezL ps fs t) i = ezP ps fs t i := by simp [pAt, ezL, h]
def in01 (t : Nat) : Bool := fge t 0 && fle t 1065353216
noncomputable def ezO (ps : List Sp) (fs : List (List Int)) (t : Nat) : Bool := okN ps fs && in01 t && okN (ezL ps fs t) fs
noncomputable def ezRP (ps : List Sp) (fs : List (List Int)) (t : Nat) : List Sp := if ezO ps fs t then ezL ps fs t else []
noncomputable def ezRF (ps : List Sp) (fs : List (List Int)) (t : Nat) : List (List Int) := if ezO ps fs t then fs else []
theorem ez_len1 {ps : List Sp} {fs : List (List Int)} {t : Nat} (h : ps.length ≤ 1048576) : (ezRP ps fs t).length ≤ 1048576 := by
  unfold ezRP; split
  · rw [ezL_len]; exact h
  · simp
theorem ez_len2 {ps : List Sp} {fs : List (List Int)} {t : Nat} (h : fs.length ≤ 1048576) : (ezRF ps fs t).length ≤ 1048576 := by
  unfold ezRF; split
  · exact h
  · simp
theorem ez_len3 {ps : List Sp} {fs : List (List Int)} {t : Nat} (h : ∀ i, i < fs.length → (fAt fs i).length ≤ 1048576) : ∀ i, i < (ezRF ps fs t).length → (fAt (ezRF ps fs t) i).length ≤ 1048576 := by
  unfold ezRF; split
  · exact h
  · intro i hi; simp at hi
theorem RetN.noE {ps : List Sp} {fs : List (List Int)} {t : Nat} {w w' : World} (h : ezO ps fs t = false) (hb : Below w.heap.size w w') : RetN (ezRP ps fs t) (ezRF ps fs t) (ezO ps fs t) w (.returned (.tuple #[.agg #[.slice none 0 0, .slice none 0 0], .bool false])) w' := by
  have h1 : ezRP ps fs t = [] := by simp [ezRP, h]
  have h2 : ezRF ps fs t = [] := by simp [ezRF, h]
  rw [h1, h2, h]
  exact ⟨⟨none, none, 0, 0, rfl, ONet.nil _ _ _⟩, hb⟩
theorem edge_ne {fs : List (List Int)} (h : SideOk fs) : ∀ k, k < (firsts (colA fs) (colB fs) (sumTo fs fs.length)).length → iAt (colA fs) ((firsts (colA fs) (colB fs) (sumTo fs fs.length)).getD k 0) ≠ iAt (colB fs) ((firsts (colA fs) (colB fs) (sumTo fs fs.length)).getD k 0) := fun k hk => by
  refine h.ne _ (firsts_lt (A := colA fs) (B := colB fs) _ _ ?_)
  rw [List.getD_eq_getElem?_getD, List.getElem?_eq_getElem hk]
  exact List.getElem_mem hk
theorem oth_edges {fs : List (List Int)} (h : SideOk fs) (x : Int) : ∃ m, (prL false fs).length = 2 * m ∧ othP (prL false fs) x m = othA fs x := by
  obtain ⟨m, hm⟩ := prTo_even (fun _ => true) (colA fs) (colB fs) (firsts (colA fs) (colB fs) (sumTo fs fs.length)) (firsts (colA fs) (colB fs) (sumTo fs fs.length)).length
  rw [prL_edges] at hm
  refine ⟨m, hm, ?_⟩
  rw [← prL_edges] at hm ⊢
  exact othP_prTo (edge_ne h) _ m (Nat.le_refl _) hm
theorem oth_borders {fs : List (List Int)} (h : SideOk fs) (x : Int) : ∃ m, (prL true fs).length = 2 * m ∧ othP (prL true fs) x m = othBd fs x := by
  obtain ⟨m, hm⟩ := prTo_even (fun s => decide (secF (colA fs) (colB fs) (colF fs) (sumTo fs fs.length) s < 0)) (colA fs) (colB fs) (firsts (colA fs) (colB fs) (sumTo fs fs.length)) (firsts (colA fs) (colB fs) (sumTo fs fs.length)).length
  rw [prL_borders h] at hm
  refine ⟨m, hm, ?_⟩
  rw [← prL_borders h] at hm ⊢
  exact othP_prTo (edge_ne h) _ m (Nat.le_refl _) hm

theorem oth_mem {p : Nat → Bool} {A B : List Int} {L : List Nat} {x : Int} : ∀ k, k ≤ L.length → ∀ v ∈ othTo p A B L x k, ∃ i, i < L.length ∧ (v = iAt A (L.getD i 0) ∨ v = iAt B (L.getD i 0))
  | 0, _, v, hv => by cases hv
  | k + 1, hk, v, hv => by
    rw [othTo, List.mem_append] at hv
    rcases hv with hv | hv
    · exact oth_mem k (by omega) v hv
    · split at hv
      · unfold othE at hv
        split at hv
        · exact ⟨k, by omega, .inr (by simpa using hv)⟩
        · split at hv
          · exact ⟨k, by omega, .inl (by simpa using hv)⟩
          · cases hv
      · cases hv
theorem oth_in {ps : List Sp} {fs : List (List Int)} (h : OkNet ps fs (colA fs) (colB fs)) (x : Int) : InN ps.length (othA fs x) := fun k hk => by
  have hm : iAt (othA fs x) k ∈ othA fs x := by
    unfold iAt; rw [List.getD_eq_getElem?_getD, List.getElem?_eq_getElem hk]; exact List.getElem_mem hk
  obtain ⟨i, hi, hv⟩ := oth_mem _ (Nat.le_refl _) _ hm
  have hlt : (firsts (colA fs) (colB fs) (sumTo fs fs.length)).getD i 0 < sumTo fs fs.length := by
    refine firsts_lt (A := colA fs) (B := colB fs) _ _ ?_
    rw [List.getD_eq_getElem?_getD, List.getElem?_eq_getElem hi]
    exact List.getElem_mem hi
  generalize (firsts (colA fs) (colB fs) (sumTo fs fs.length)).getD i 0 = t at hlt hv
  obtain ⟨j, k2, h1, h2, rfl⟩ := colTo_of (sideA fs) fs fs.length t hlt
  have hA : iAt (colA fs) (sumTo fs j + k2) = sideA fs j k2 := (colTo_at (sideA fs) fs fs.length j k2 h1 h2).2
  have hB : iAt (colB fs) (sumTo fs j + k2) = sideB fs j k2 := (colTo_at (sideB fs) fs fs.length j k2 h1 h2).2
  rcases hv with hv | hv
  · rw [hv, hA]
    exact (h.facets j h1).inN k2 h2
  · rw [hv, hB]
    exact (h.facets j h1).inN _ (Nat.mod_lt _ (by omega))
theorem OkNet.sum {ps : List Sp} {fs : List (List Int)} {A B : List Int} (h : OkNet ps fs A B) : sumTo fs fs.length ≤ 2048 := by
  have key : ∀ j, j ≤ fs.length → sumTo fs j ≤ j * 8 := by
    intro j
    induction j with
    | zero => intro _; simp [sumTo]
    | succ j ih =>
      intro hj
      have h1 := ih (by omega)
      have h2 := (h.facets j (by omega)).2.1
      simp only [sumTo]; omega
  have h1 := key fs.length (Nat.le_refl _)
  have h2 := h.f256
  omega
theorem othA_len {ps : List Sp} {fs : List (List Int)} (h : OkNet ps fs (colA fs) (colB fs)) (x : Int) : (othA fs x).length ≤ 2048 :=
  Nat.le_trans (Nat.le_trans (othTo_len _ _ _ _ _ _) (firsts_lenA fs)) (OkNet.sum h)
theorem can_one : can .f32 1065353216 = 1065353216 := can_of_not (by decide +kernel)
theorem timeB (x : Nat) (w : World) : Calls Try.prog 55 #[.float .f32 x] w fun e w' => e = .returned (.bool (in01 (can .f32 x))) ∧ ∃ n, w' = w.drewN n := by
  have h1 : (FloatKind.f32.format.order x 0 == some .gt || FloatKind.f32.format.order x 0 == some .eq) = fge (can .f32 x) 0 := F32.ge (F32.mk x) F32.zero
  have h2 : (FloatKind.f32.format.order x 1065353216 == some .lt || FloatKind.f32.format.order x 1065353216 == some .eq) = fle (can .f32 x) 1065353216 := F32.le (F32.mk x) (F32.lit (by decide +kernel))
  have HI : Hid (in01 (can .f32 x) = (fge (can .f32 x) 0 && fle (can .f32 x) 1065353216)) := Lib.hid rfl
  cases ha : fge (can .f32 x) 0 <;> cases hb : fle (can .f32 x) 1065353216
  all_goals
    rw [ha] at h1
    rw [hb] at h2
    have HA := Lib.hid ha
    have HB := Lib.hid hb
    clear ha hb
    go_enter Try.func55, Try.ntmps55
    go_wp2_with fail
    go_ret
    rw [HI.out, HA.out, HB.out]
    exact ⟨rfl, 0, rfl⟩

set_option maxHeartbeats 1000000 in
set_option maxRecDepth 100000 in
theorem giveB (lo hi : Nat) (sa fa : Option Addr) (sc fc : Nat) (ps : List Sp) (fs : List (List Int)) (hp : ps.length ≤ 1048576) (hn : fs.length ≤ 1048576) (hsh : ∀ i, i < fs.length → (fAt fs i).length ≤ 1048576) (w : World)
    (hs : NetAt w lo hi sa fa ps fs) (hca : SlC w lo hi fa fs) (hh : hi ≤ w.heap.size) :
    Calls Try.prog 33 #[.agg #[.slice sa ps.length sc, .slice fa fs.length fc]] w fun e w' => e = .returned (.tuple #[if okN ps fs then .agg #[.slice sa ps.length sc, .slice fa fs.length fc] else .agg #[.slice none 0 0, .slice none 0 0], .bool (okN ps fs)]) ∧ Below w.heap.size w w' := by
  have hA : Far lo hi w ((w.alloc (.cells #[.slice sa ps.length sc, .slice fa fs.length fc] 27)).alloc (.cells #[.slice none 0 0, .slice none 0 0] 27)) := ((Far.refl _ _ _).alloc _ hh).alloc _ (by simp; omega)
  have A0 : OwnC ((w.alloc (.cells #[.slice sa ps.length sc, .slice fa fs.length fc] 27)).alloc (.cells #[.slice none 0 0, .slice none 0 0] 27)) w.heap.size #[.slice sa ps.length sc, .slice fa fs.length fc] 27 := (OwnC.new rfl).alloc _
  have R0 : OwnC ((w.alloc (.cells #[.slice sa ps.length sc, .slice fa fs.length fc] 27)).alloc (.cells #[.slice none 0 0, .slice none 0 0] 27)) (w.heap.size + 1) #[.slice none 0 0, .slice none 0 0] 27 := OwnC.new (by simp)
  have HBA : Hid (Below w.heap.size w ((w.alloc (.cells #[.slice sa ps.length sc, .slice fa fs.length fc] 27)).alloc (.cells #[.slice none 0 0, .slice none 0 0] 27))) := by
    show Below _ _ _
    (repeat (first | exact Below.refl _ _ | assumption | refine below_dr ?_ _ | refine Below.alloc ?_ (by first | omega | (simp; done) | (simp; omega)) _ | refine Below.setCell ?_ (by first | omega | (simp; done) | (simp; omega)) _ | refine Below.trans ?_ (Below.mono (by assumption) (by first | omega | (simp; done) | (simp; omega)))))
  have IS := Lib.hid (validNet lo hi sa fa sc fc ps fs hp hn hsh _ (hs.far hA) (hca.far hA) (by simp; omega))
  have HA0 := Lib.hid A0
  have HR0 := Lib.hid R0
  clear hs hsh A0 R0 hA hca
  unfold netV at *
  cases hv : okN ps fs
  all_goals
    have HV : Hid (dec (OkNet ps fs (colA fs) (colB fs)) = _) := Lib.hid hv
    clear hv
    go_enter Try.func33, Try.ntmps33
    go_wp2_with (go_at_call 26; refine IS.out.mono ?_; rintro e w3 ⟨rfl, hb3⟩; rw [HV.out]; have A3 := HA0.out.below hb3 (by simp; omega); have a0 := A3.cell 0; have a1 := A3.cell 1; have R3 := HR0.out.below hb3 (by simp); have r0 := R3.cell 0; have r1 := R3.cell 1; have g0 := R3.free 0; have g1 := R3.free 1; simp at a0 a1 r0 r1)
  · have R := (R3.set 0 (.slice none 0 0)).set 1 (.slice none 0 0)
    have q0 := R.cell 0
    have q1 := R.cell 1
    simp at q0 q1
    refine bodyPost_ret (v := .tuple #[.agg #[.slice none 0 0, .slice none 0 0], .bool false]) (by simp [results, Try.results33, go_sem, *]) rfl ⟨rfl, ?_⟩
    exact ((HBA.out.trans (hb3.mono (by simp; omega))).setCell (p := ⟨w.heap.size + 1, 0, none⟩) (by simp) (.slice none 0 0)).setCell (p := ⟨w.heap.size + 1, 1, none⟩) (by simp) (.slice none 0 0)
  · have R := (R3.set 0 (.slice sa ps.length sc)).set 1 (.slice fa fs.length fc)
    have q0 := R.cell 0
    have q1 := R.cell 1
    simp at q0 q1
    refine bodyPost_ret (v := .tuple #[.agg #[.slice sa ps.length sc, .slice fa fs.length fc], .bool true]) (by simp [results, Try.results33, go_sem, *]) rfl ⟨rfl, ?_⟩
    exact ((HBA.out.trans (hb3.mono (by simp; omega))).setCell (p := ⟨w.heap.size + 1, 0, none⟩) (by simp) (.slice sa ps.length sc)).setCell (p := ⟨w.heap.size + 1, 1, none⟩) (by simp) (.slice fa fs.length fc)
end Go.Proofs.Ytkjljajjjhfklaa

namespace Go.Fl
open Ieee

theorem log2_scale (m a : Nat) (hm : m ≠ 0) : (m * 2 ^ a).log2 = m.log2 + a := by
  have h1 : 2 ^ m.log2 ≤ m := Nat.log2_self_le hm
  have h2 : m < 2 ^ (m.log2 + 1) := Nat.lt_log2_self
  have hp : 0 < 2 ^ a := Nat.two_pow_pos a
  have h3 : 2 ^ (m.log2 + a) ≤ m * 2 ^ a := by rw [Nat.pow_add]; exact Nat.mul_le_mul_right _ h1
  have h4 : m * 2 ^ a < 2 ^ (m.log2 + a + 1) := by
    rw [show m.log2 + a + 1 = (m.log2 + 1) + a by omega, Nat.pow_add]; exact Nat.mul_lt_mul_of_pos_right h2 hp
  have hne : m * 2 ^ a ≠ 0 := by
    have : 0 < m * 2 ^ a := Nat.mul_pos (by omega) hp
    omega
  have h5 : (m * 2 ^ a).log2 < m.log2 + a + 1 := (Nat.log2_lt hne).2 h4
  have h6 : m.log2 + a ≤ (m * 2 ^ a).log2 := (Nat.le_log2 hne).2 h3
  omega

theorem cut_even (s : Bool) (n d : Nat) : Toward.even.cut s n d = n / 2 ^ (min d (n.log2 + 2)) + (decide (2 ^ (min d (n.log2 + 2)) < 2 * (n % 2 ^ (min d (n.log2 + 2)))) || (2 ^ (min d (n.log2 + 2)) == 2 * (n % 2 ^ (min d (n.log2 + 2))) && n / 2 ^ (min d (n.log2 + 2)) % 2 == 1)).toNat := by
  unfold Toward.cut
  rw [Nat.one_shiftLeft]

theorem cut_scale (s : Bool) (n d a : Nat) (hn : n ≠ 0) : Toward.even.cut s (n * 2 ^ a) (d + a) = Toward.even.cut s n d := by
  rw [cut_even, cut_even, log2_scale n a hn]
  have e : min (d + a) (n.log2 + a + 2) = min d (n.log2 + 2) + a := by omega
  rw [e]
  generalize min d (n.log2 + 2) = g
  have hp : 0 < 2 ^ a := Nat.two_pow_pos a
  have e1 : n * 2 ^ a / 2 ^ (g + a) = n / 2 ^ g := by rw [Nat.pow_add, Nat.mul_div_mul_right _ _ hp]
  have e2 : n * 2 ^ a % 2 ^ (g + a) = n % 2 ^ g * 2 ^ a := by rw [Nat.pow_add, Nat.mul_mod_mul_right]
  rw [e1, e2, Nat.pow_add]
  have e3 : decide (2 ^ g * 2 ^ a < 2 * (n % 2 ^ g * 2 ^ a)) = decide (2 ^ g < 2 * (n % 2 ^ g)) := by
    rw [← Nat.mul_assoc]
    exact decide_eq_decide.2 ⟨fun h => Nat.lt_of_mul_lt_mul_right h, fun h => Nat.mul_lt_mul_of_pos_right h hp⟩
  have e4 : (2 ^ g * 2 ^ a == 2 * (n % 2 ^ g * 2 ^ a)) = (2 ^ g == 2 * (n % 2 ^ g)) := by
    rw [← Nat.mul_assoc, Bool.eq_iff_iff]
    simp only [beq_iff_eq]
    exact ⟨fun h => Nat.eq_of_mul_eq_mul_right hp h, fun h => congrArg (· * 2 ^ a) h⟩
  rw [e3, e4]

theorem cut_zero (s : Bool) (n : Nat) : Toward.even.cut s n 0 = n := by
  rw [cut_even]
  simp [Nat.mod_one]

theorem nearest_scale (f : Format) (s : Bool) (m a : Nat) (p : Int) : f.nearest s (m * 2 ^ a) (p - a) = f.nearest s m p := by
  rcases Nat.eq_zero_or_pos m with rfl | hpos
  · simp [Format.nearest]
  have hm : m ≠ 0 := by omega
  have hp : 0 < 2 ^ a := Nat.two_pow_pos a
  have hne : m * 2 ^ a ≠ 0 := by
    have : 0 < m * 2 ^ a := Nat.mul_pos hpos hp
    omega
  unfold Format.nearest
  rw [if_neg hm, if_neg hne]
  simp only
  rw [log2_scale m a hm]
  have e : p - (a : Int) + ((m.log2 + a : Nat) : Int) - f.fractionBits = p + m.log2 - f.fractionBits := by omega
  rw [e]
  generalize max (p + m.log2 - f.fractionBits) f.leastPlace = last
  have hc : Toward.even.cut s ((m * 2 ^ a) <<< (p - a - last).toNat) (last - (p - a)).toNat = Toward.even.cut s (m <<< (p - last).toNat) (last - p).toNat := by
    by_cases h1 : last ≤ p
    · have e1 : (last - p).toNat = 0 := by omega
      rw [e1, cut_zero]
      by_cases h2 : last ≤ p - a
      · have e2 : (last - (p - a)).toNat = 0 := by omega
        rw [e2, cut_zero, Nat.shiftLeft_eq, Nat.shiftLeft_eq, Nat.mul_assoc, ← Nat.pow_add]
        congr 2; omega
      · have e2 : (p - a - last).toNat = 0 := by omega
        rw [e2, Nat.shiftLeft_zero, Nat.shiftLeft_eq]
        have e3 : m * 2 ^ a = (m * 2 ^ (p - last).toNat) * 2 ^ (last - (p - a)).toNat := by
          rw [Nat.mul_assoc, ← Nat.pow_add]; congr 2; omega
        have hne2 : m * 2 ^ (p - last).toNat ≠ 0 := by
          have : 0 < m * 2 ^ (p - last).toNat := Nat.mul_pos hpos (Nat.two_pow_pos _)
          omega
        rw [e3]
        have := cut_scale s (m * 2 ^ (p - last).toNat) 0 (last - (p - a)).toNat hne2
        rw [Nat.zero_add] at this
        rw [this, cut_zero]
    · have e1 : (p - last).toNat = 0 := by omega
      have e2 : (p - a - last).toNat = 0 := by omega
      have e3 : (last - (p - a)).toNat = (last - p).toNat + a := by omega
      rw [e1, e2, e3, Nat.shiftLeft_zero, Nat.shiftLeft_zero, cut_scale s m _ a hm]
  rw [hc]

theorem half_eq (x : Nat) : fdiv x 1073741824 = fmul 1056964608 x := by
  have r2 : FloatKind.f32.format.read 1073741824 = .number false (2 ^ 23) (-22) := by decide +kernel
  have rh : FloatKind.f32.format.read 1056964608 = .number false (2 ^ 23) (-24) := by decide +kernel
  unfold fdiv fmul fop floatBits Format.div Format.mul
  rw [r2, rh]
  cases hx : FloatKind.f32.format.read x with
  | nan s f => rfl
  | infinity s => cases s <;> rfl
  | number s m i =>
    have hm := (read_number .f32 x hx).1
    have hl := log2_lt (n := 23) hm
    have hlog : (2 ^ 23 : Nat).log2 = 23 := by decide
    simp only [Datum.quotient, Datum.product, hlog, Option.map_some, Option.getD_some]
    rw [if_neg (by decide)]
    simp only [Option.map_some, Option.getD_some]
    show FloatKind.f32.format.nearest _ _ _ = FloatKind.f32.format.nearest _ _ _
    have hmore : FloatKind.f32.format.fractionBits + 2 + 23 - m.log2 = 48 - m.log2 := rfl
    rw [hmore]
    have e1 : m <<< (48 - m.log2) = (m * 2 ^ (25 - m.log2)) * 2 ^ 23 := by
      rw [Nat.shiftLeft_eq, Nat.mul_assoc, ← Nat.pow_add]; congr 2; omega
    rw [e1, Nat.mul_div_cancel _ (by decide), Nat.mul_mod_left]
    have e2 : 2 * (m * 2 ^ (25 - m.log2)) + ((0 : Nat) != 0).toNat = m * 2 ^ (26 - m.log2) := by
      rw [show 26 - m.log2 = (25 - m.log2) + 1 by omega, Nat.pow_succ]
      simp only [bne_self_eq_false, Bool.toNat_false, Nat.add_zero]
      rw [Nat.mul_comm 2 (m * 2 ^ (25 - m.log2)), Nat.mul_assoc]
    rw [e2]
    have e3 : i - (-22) - ((48 - m.log2 : Nat) : Int) - 1 = (i - 1) - ((26 - m.log2 : Nat) : Int) := by omega
    rw [e3, nearest_scale]
    have e4 : (-24 : Int) + i = (i - 1) - ((23 : Nat) : Int) := by omega
    rw [e4, Nat.mul_comm (2 ^ 23) m, nearest_scale]
    cases s <;> rfl
end Go.Fl

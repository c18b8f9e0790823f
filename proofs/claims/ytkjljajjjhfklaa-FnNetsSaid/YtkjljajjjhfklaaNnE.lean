/- Nets, the law: the net that is made round, as plain functions; where the walk stands. -/
import Derived.Test.YtkjljajjjhfklaaNnD
namespace Go.Proofs.Ytkjljajjjhfklaa
open Go.RowKit Go.Fl
section
variable {ops : Array Oper} {o : Oper} {a : Act}
/-- a look-up, a store, in a drawn region -/
theorem step_look {K : Act → World → Prop} {Q : Exit → Act → World → Prop} {E : Prop} (w : World) (hg : o.guard = none) (m x : Operand) (t : TypeId) (c : Bool) (hop : o.op = Op.lookup t m x c)
    (e : TypeId) (ht : Try.prog.underlying t = some (.map 68 e)) (z : Value) (hz : (zeroValue e).run Try.prog w = .ok z w) (b n : Nat) (f : Int → Int → Option Value) (hm : a.eval m = .map (some b)) (hown : OMap w b n f) (p q : Int) (hx : a.eval x = keyV p q) (hp : In64 p) (hq : In64 q)
    (hK : K (a.put o.dst (if c then .tuple #[(f p q).getD z, .bool (f p q).isSome] else (f p q).getD z)) w) :
    if Region.wanted o (yielded ops a.tmps) = true then Oper.wp Try.prog o a w K Q else E := by
  have hw : Region.wanted o (yielded ops a.tmps) = true := by simp [Region.wanted, hg]
  rw [if_pos hw]
  unfold Oper.wp
  simp [execOp, hop, hm, hx, omap_look hown ht hz c hp hq, Result.andThen]
  exact hK
theorem step_store {K : Act → World → Prop} {Q : Exit → Act → World → Prop} {E : Prop} (w : World) (hg : o.guard = none) (m x v : Operand) (t : TypeId) (hop : o.op = Op.mapUpdate t m x v)
    (e : TypeId) (ht : Try.prog.underlying t = some (.map 68 e)) (b n : Nat) (f : Int → Int → Option Value) (hm : a.eval m = .map (some b)) (hown : OMap w b n f) (p q : Int) (hx : a.eval x = keyV p q) (hp : In64 p) (hq : In64 q)
    (hK : ∀ w1, OMap w1 b (n + 1) (put2 f p q (a.eval v)) → Grew b w w1 → K (a.put o.dst undef) w1) :
    if Region.wanted o (yielded ops a.tmps) = true then Oper.wp Try.prog o a w K Q else E := by
  have hw : Region.wanted o (yielded ops a.tmps) = true := by simp [Region.wanted, hg]
  rw [if_pos hw]
  obtain ⟨w', hrun, h1, h2⟩ := omap_store hown ht hp hq (a.eval v)
  unfold Oper.wp
  simp [execOp, hop, hm, hx, hrun, Result.andThen]
  exact hK w' h1 h2
end
theorem SpL.app {cs ds : List Value} {qs rs : List Sp} (h : SpL cs qs) (hl : cs.length = qs.length * 3) (k : SpL ds rs) : SpL (cs ++ ds) (qs ++ rs) := fun i hi => by
  by_cases h1 : i < qs.length
  · obtain ⟨a, b, c, e1, e2, e3, e4⟩ := h i h1
    refine ⟨a, b, c, ?_, ?_, ?_, ?_⟩
    · rw [List.getElem?_append_left (by omega)]; exact e1
    · rw [List.getElem?_append_left (by omega)]; exact e2
    · rw [List.getElem?_append_left (by omega)]; exact e3
    · have : pAt (qs ++ rs) i = pAt qs i := by unfold pAt; rw [List.getD_eq_getElem?_getD, List.getD_eq_getElem?_getD, List.getElem?_append_left h1]
      rw [this]; exact e4
  · rw [List.length_append] at hi
    obtain ⟨a, b, c, e1, e2, e3, e4⟩ := k (i - qs.length) (by omega)
    refine ⟨a, b, c, ?_, ?_, ?_, ?_⟩
    · rw [List.getElem?_append_right (by omega), show i * 3 - cs.length = (i - qs.length) * 3 by omega]; exact e1
    · rw [List.getElem?_append_right (by omega), show i * 3 + 1 - cs.length = (i - qs.length) * 3 + 1 by omega]; exact e2
    · rw [List.getElem?_append_right (by omega), show i * 3 + 2 - cs.length = (i - qs.length) * 3 + 2 by omega]; exact e3
    · have : pAt (qs ++ rs) i = pAt rs (i - qs.length) := by unfold pAt; rw [List.getD_eq_getElem?_getD, List.getD_eq_getElem?_getD, List.getElem?_append_right (by omega)]
      rw [this]; exact e4
/-- where an edge's spot comes -/
def egP (ps : List Sp) (fs : List (List Int)) (s : Nat) : Sp :=
  if secF (colA fs) (colB fs) (colF fs) (sumTo fs fs.length) s < 0 then spMul (spAdd (pAt ps (iAt (colA fs) s).toNat) (pAt ps (iAt (colB fs) s).toNat)) (can .f32 1056964608)
  else spMul (spAdd (spAdd (spAdd (pAt ps (iAt (colA fs) s).toNat) (pAt ps (iAt (colB fs) s).toNat)) (pAt (midsTo ps fs fs.length) (iAt (colF fs) s).toNat)) (pAt (midsTo ps fs fs.length) (secF (colA fs) (colB fs) (colF fs) (sumTo fs fs.length) s).toNat)) (can .f32 1048576000)
abbrev fsts (fs : List (List Int)) : List Nat := firsts (colA fs) (colB fs) (sumTo fs fs.length)
noncomputable def rn1 (ps : List Sp) (fs : List (List Int)) (j : Nat) : List Sp := (List.range j).map (rdP ps fs)
def rn3 (ps : List Sp) (fs : List (List Int)) (t : Nat) : List Sp := (List.range t).map fun k => egP ps fs ((fsts fs).getD k 0)
noncomputable def rn2 (ps : List Sp) (fs : List (List Int)) (t : Nat) : List Sp := rn1 ps fs ps.length ++ midsTo ps fs fs.length ++ rn3 ps fs t
/-- the spots of the net that is made round -/
noncomputable def rnP (ps : List Sp) (fs : List (List Int)) : List Sp := rn2 ps fs (fsts fs).length
/-- the places of the edges' spots -/
def plM (fs : List (List Int)) (base : Nat) : Nat → Int → Int → Option Value
  | 0 => fun _ _ => none
  | t + 1 => fun x y => if (x = iAt (colA fs) ((fsts fs).getD t 0) ∧ y = iAt (colB fs) ((fsts fs).getD t 0)) ∨ (x = iAt (colB fs) ((fsts fs).getD t 0) ∧ y = iAt (colA fs) ((fsts fs).getD t 0)) then some (.int .i64 ((base + t : Nat) : Int)) else plM fs base t x y
def plI (fs : List (List Int)) (base : Nat) (x y : Int) : Int := intOf ((plM fs base (fsts fs).length x y).getD (.int .i64 0))
def corR (fs : List (List Int)) (n j k : Nat) : List Int :=
  [iAt (fAt fs j) k, plI fs (n + fs.length) (iAt (fAt fs j) k) (iAt (fAt fs j) ((k + 1) % (fAt fs j).length)), ((n + j : Nat) : Int), plI fs (n + fs.length) (iAt (fAt fs j) ((k + (fAt fs j).length - 1) % (fAt fs j).length)) (iAt (fAt fs j) k)]
def rnC (fs : List (List Int)) (n j k : Nat) : List (List Int) := (List.range k).map (corR fs n j)
def rnF' (fs : List (List Int)) (n : Nat) : Nat → List (List Int)
  | 0 => []
  | j + 1 => rnF' fs n j ++ rnC fs n j (fAt fs j).length
/-- the facets of the net that is made round -/
def rnF (fs : List (List Int)) (n : Nat) : List (List Int) := rnF' fs n fs.length
theorem rn1_len (ps : List Sp) (fs : List (List Int)) (j : Nat) : (rn1 ps fs j).length = j := by simp [rn1]
theorem rn1_succ (ps : List Sp) (fs : List (List Int)) (j : Nat) : rn1 ps fs (j + 1) = rn1 ps fs j ++ [rdP ps fs j] := by simp [rn1, List.range_succ]
theorem rn3_succ (ps : List Sp) (fs : List (List Int)) (t : Nat) : rn3 ps fs (t + 1) = rn3 ps fs t ++ [egP ps fs ((fsts fs).getD t 0)] := by simp [rn3, List.range_succ]
theorem rn2_succ (ps : List Sp) (fs : List (List Int)) (t : Nat) : rn2 ps fs (t + 1) = rn2 ps fs t ++ [egP ps fs ((fsts fs).getD t 0)] := by simp [rn2, rn3_succ]
theorem rn2_len (ps : List Sp) (fs : List (List Int)) (t : Nat) : (rn2 ps fs t).length = ps.length + fs.length + t := by simp [rn2, rn1_len, midsTo_len, rn3]; omega
theorem rnC_succ (fs : List (List Int)) (n j k : Nat) : rnC fs n j (k + 1) = rnC fs n j k ++ [corR fs n j k] := by simp [rnC, List.range_succ]
theorem rnC_len (fs : List (List Int)) (n j k : Nat) : (rnC fs n j k).length = k := by simp [rnC]
theorem rnF'_len (fs : List (List Int)) (n : Nat) : ∀ j, (rnF' fs n j).length = sumTo fs j
  | 0 => rfl
  | j + 1 => by simp [rnF', sumTo, rnF'_len fs n j, rnC_len]
theorem plM_int (fs : List (List Int)) (base : Nat) (x y : Int) : ∀ t v, plM fs base t x y = some v → ∃ k : Nat, v = .int .i64 (k : Int) ∧ k < base + t
  | 0, v, h => by cases h
  | t + 1, v, h => by
    unfold plM at h
    split at h
    · cases h; exact ⟨_, rfl, by omega⟩
    · obtain ⟨k, e, hk⟩ := plM_int fs base x y t v h
      exact ⟨k, e, by omega⟩
theorem plI_getD (fs : List (List Int)) (base : Nat) (x y : Int) : (plM fs base (fsts fs).length x y).getD (.int .i64 0) = .int .i64 (plI fs base x y) := by
  unfold plI
  cases h : plM fs base (fsts fs).length x y with
  | none => rfl
  | some v =>
    obtain ⟨k, rfl, _⟩ := plM_int fs base x y _ v h
    rfl
/-- the spots of the new net so far -/
structure SpI (wb wr : World) (ob : Nat) (hd v : Value) (n : Nat) (qs : List Sp) (cs : List Value) : Prop where
  len : qs.length = n
  row : ORow0 wr 46 3 v n cs
  sp : SpL cs qs
  new : ∀ b, v.ownBlock = some b → wb.heap.size ≤ b
  own : OwnC wr ob #[v, hd] 27
  ch : Ch (fun c => c = ob) wb wr
theorem SpI.start {wb : World} {ob : Nat} {hd : Value} (h : OwnC wb ob #[.slice none 0 0, hd] 27) : SpI wb wb ob hd (.slice none 0 0) 0 [] [] :=
  ⟨rfl, ORow0.nil _ _ _, SpL.nil, fun b e => (by cases e), h, Ch.refl _ _⟩
theorem SpI.clen {wb wr : World} {ob n : Nat} {hd v : Value} {qs : List Sp} {cs : List Value} (h : SpI wb wr ob hd v n qs cs) : cs.length = qs.length * 3 := by
  rw [h.len]; exact h.row.1
theorem SpI.below {wb wr w' : World} {ob n : Nat} {hd v : Value} {qs : List Sp} {cs : List Value} (h : SpI wb wr ob hd v n qs cs) (hb : Below wr.heap.size wr w') : SpI wb w' ob hd v n qs cs :=
  ⟨h.len, ORow0.below h.row hb, h.sp, h.new, h.own.below hb h.own.lt, h.ch.trans (P' := fun _ => False) (Ch.below hb) (fun _ k => k.elim)⟩
theorem SpI.map {wb wr w' : World} {ob n bv cv M : Nat} {hd : Value} {qs : List Sp} {cs : List Value} (h : SpI wb wr ob hd (.slice (some ⟨bv, 0, none⟩) n cv) n qs cs) (hn : 0 < n) (hc : Ch (fun c => c = M) wr w') (hM : wb.heap.size ≤ M) (hob : ob < wb.heap.size) (hv : ¬ bv = M) : SpI wb w' ob hd (.slice (some ⟨bv, 0, none⟩) n cv) n qs cs := by
  obtain ⟨b, c, e, hr⟩ := ORow0.form h.row hn
  cases e
  have hl := hr.lt
  exact ⟨h.len, ORow.row0 (hr.far (lo := bv) (hi := bv + 1) (hc.far (by omega) (fun c h1 h2 e => by omega)) (Nat.le_refl _) (Nat.lt_succ_self _)), h.sp, h.new, hc.own h.own (by omega), h.ch.trans hc (fun c hc => .inr (by omega))⟩
structure SpS (wb wr w7 : World) (ob : Nat) (hd v : Value) (n m b7 c7 : Nat) (qs : List Sp) (cs : List Value) : Prop where
  i : SpI wb (w7.setCell ⟨ob, 0, none⟩ (.slice (some ⟨b7, 0, none⟩) (n + m) c7)) ob hd (.slice (some ⟨b7, 0, none⟩) (n + m) c7) (n + m) qs cs
  kept : ∀ c, c < wr.heap.size → c ≠ ob → v.ownBlock ≠ some c → (w7.setCell ⟨ob, 0, none⟩ (.slice (some ⟨b7, 0, none⟩) (n + m) c7)).heap[c]? = wr.heap[c]?
  kept7 : ∀ c, c < wr.heap.size → v.ownBlock ≠ some c → w7.heap[c]? = wr.heap[c]?
  own7 : OwnC w7 ob #[v, hd] 27
  size : wr.heap.size ≤ w7.heap.size
  blk : v.ownBlock = some b7 ∨ wr.heap.size ≤ b7
theorem SpI.step {wb wr w6 w7 : World} {ob n : Nat} {hd v : Value} {qs rs : List Sp} {cs news : List Value} {b7 c7 m : Nat} (h : SpI wb wr ob hd v n qs cs) (hob : ob < wb.heap.size) (h6 : Below wr.heap.size wr w6) (hm : rs.length = m)
    (hg7 : w6.grownBy w7 v.ownBlock) (r7 : ORow w7 46 3 b7 c7 (n + m) (cs ++ news)) (hb7 : v.ownBlock = some b7 ∨ b7 = w6.heap.size) (hsp : SpL (cs ++ news) (qs ++ rs)) :
    SpS wb wr w7 ob hd v n m b7 c7 (qs ++ rs) (cs ++ news) := by
  have z5 := h.ch.size
  have z6 := h6.size
  have z7 := hg7.size
  have hbo : wb.heap.size ≤ b7 := by
    rcases hb7 with e | e
    · exact h.new _ e
    · omega
  have hne : ∀ c, c < w6.heap.size → v.ownBlock ≠ some c → w7.heap[c]? = w6.heap[c]? := fun c hc hv => hg7.block c hc (fun e => hv e.symm)
  have hvo : v.ownBlock ≠ some ob := fun e => by have := h.new _ e; omega
  have hown7 : OwnC w7 ob #[v, hd] 27 := (hne ob (by omega) hvo).trans (h.own.below h6 (by omega))
  refine ⟨⟨by rw [List.length_append, hm, h.len], ?_, hsp, fun b e => ?_, (hown7.set 0 _).congr rfl, ?_⟩, fun c hc h1 h2 => ?_, fun c hc h2 => (hne c (by omega) h2).trans (h6.block c hc), hown7, by omega, hb7.imp id (by omega)⟩
  · exact ORow0.set r7.row0 _ _ _ (by simp [Value.ownBlock]; omega)
  · simp [Value.ownBlock] at e; omega
  · have c1 : Ch (fun c => c = ob) wb w6 := h.ch.trans (P' := fun _ => False) (Ch.below h6) (fun b hb => hb.elim)
    have c2 : Ch (fun c => v.ownBlock = some c) w6 w7 := ⟨hg7.os, hg7.tape, hg7.output, by omega, hne⟩
    have c3 : Ch (fun c => c = ob) wb w7 := c1.trans c2 (fun b hb => .inr (h.new b hb))
    exact c3.trans (P' := fun c => c = ob) (Ch.set _ _ _ rfl) (fun b hb => .inl hb)
  · rw [Below.heap_setCell _ _ _ _ h1, hne c (by omega) h2]
    exact h6.block c hc
/-- what is known of an edge of a valid net -/
structure EdOk (n m : Nat) (fs : List (List Int)) (s : Nat) : Prop where
  a : ∃ u : Nat, iAt (colA fs) s = (u : Int) ∧ u < n
  b : ∃ u : Nat, iAt (colB fs) s = (u : Int) ∧ u < n
  f : ∃ u : Nat, iAt (colF fs) s = (u : Int) ∧ u < m
  g : secF (colA fs) (colB fs) (colF fs) (sumTo fs fs.length) s < 0 ∨ ∃ u : Nat, secF (colA fs) (colB fs) (colF fs) (sumTo fs fs.length) s = (u : Int) ∧ u < m
theorem nat_of {x : Int} {n : Nat} (h : 0 ≤ x ∧ x < n) : ∃ u : Nat, x = (u : Int) ∧ u < n := by
  obtain ⟨u, hu⟩ := Int.eq_ofNat_of_zero_le h.1
  exact ⟨u, hu, by omega⟩
theorem colF_in {fs : List (List Int)} {t : Nat} (ht : t < sumTo fs fs.length) : ∃ u : Nat, iAt (colF fs) t = (u : Int) ∧ u < fs.length := by
  obtain ⟨j, k, h1, h2, rfl⟩ := colTo_of (sideA fs) fs fs.length t ht
  rw [(colTo_at sideF fs fs.length j k h1 h2).2]
  exact ⟨j, rfl, h1⟩
theorem side_ok {ps : List Sp} {fs : List (List Int)} (h : OkNet ps fs (colA fs) (colB fs)) {t : Nat} (ht : t < sumTo fs fs.length) : EdOk ps.length fs.length fs t := by
  refine ⟨nat_of ?_, nat_of ?_, colF_in ht, ?_⟩
  · obtain ⟨j, k, h1, h2, rfl⟩ := colTo_of (sideA fs) fs fs.length t ht
    rw [(colTo_at (sideA fs) fs fs.length j k h1 h2).2]
    exact (h.facets j h1).inN k h2
  · obtain ⟨j, k, h1, h2, rfl⟩ := colTo_of (sideA fs) fs fs.length t ht
    rw [(colTo_at (sideB fs) fs fs.length j k h1 h2).2]
    exact (h.facets j h1).inN _ (Nat.mod_lt _ (by omega))
  · unfold secF
    cases hf : (List.range (sumTo fs fs.length)).find? (backB (colA fs) (colB fs) t) with
    | none => left; show (-1 : Int) < 0; decide
    | some s =>
      right
      have := List.mem_range.1 (List.mem_of_find?_eq_some hf)
      exact colF_in this
theorem edge_ok {ps : List Sp} {fs : List (List Int)} (h : OkNet ps fs (colA fs) (colB fs)) {k : Nat} (hk : k < (fsts fs).length) : (fsts fs).getD k 0 < sumTo fs fs.length ∧ EdOk ps.length fs.length fs ((fsts fs).getD k 0) := by
  have hlt : (fsts fs).getD k 0 < sumTo fs fs.length := by
    refine firsts_lt (A := colA fs) (B := colB fs) _ _ ?_
    rw [List.getD_eq_getElem?_getD, List.getElem?_eq_getElem hk]
    exact List.getElem_mem hk
  exact ⟨hlt, side_ok h hlt⟩
theorem plM_put {fs : List (List Int)} {base t : Nat} (x y : Int) : put2 (put2 (plM fs base t) (iAt (colA fs) ((fsts fs).getD t 0)) (iAt (colB fs) ((fsts fs).getD t 0)) (.int .i64 ((base + t : Nat) : Int))) (iAt (colB fs) ((fsts fs).getD t 0)) (iAt (colA fs) ((fsts fs).getD t 0)) (.int .i64 ((base + t : Nat) : Int)) x y = plM fs base (t + 1) x y := by
  unfold put2
  conv => rhs; unfold plM
  by_cases h1 : x = iAt (colB fs) ((fsts fs).getD t 0) ∧ y = iAt (colA fs) ((fsts fs).getD t 0)
  · rw [if_pos h1, if_pos (.inr h1)]
  · rw [if_neg h1]
    by_cases h2 : x = iAt (colA fs) ((fsts fs).getD t 0) ∧ y = iAt (colB fs) ((fsts fs).getD t 0)
    · rw [if_pos h2, if_pos (.inl h2)]
    · rw [if_neg h2, if_neg (by rintro (h | h); exact h2 h; exact h1 h)]
theorem sumTo_up {fs : List (List Int)} {j : Nat} : ∀ J, j ≤ J → sumTo fs j ≤ sumTo fs J
  | 0, h => by have : j = 0 := by omega
               rw [this]; exact Nat.le_refl _
  | J + 1, h => by
    by_cases e : j = J + 1
    · rw [e]; exact Nat.le_refl _
    · have := sumTo_up (fs := fs) (j := j) J (by omega)
      simp only [sumTo]; omega
theorem rnF'_at {fs : List (List Int)} {n j k : Nat} (hk : k < (fAt fs j).length) : ∀ J, j < J → fAt (rnF' fs n J) (sumTo fs j + k) = corR fs n j k
  | 0, h => absurd h (Nat.not_lt_zero _)
  | J + 1, h => by
    have hl := rnF'_len fs n J
    unfold rnF'
    by_cases e : j = J
    · subst e
      unfold fAt
      rw [List.getD_eq_getElem?_getD, List.getElem?_append_right (by omega), hl, Nat.add_sub_cancel_left]
      unfold fAt at hk
      rw [List.getD_eq_getElem?_getD] at hk
      simp [rnC, hk]
    · have h1 := sumTo_up (fs := fs) (j := j + 1) J (by omega)
      simp only [sumTo] at h1
      have ih := rnF'_at (n := n) hk J (by omega)
      unfold fAt at ih ⊢
      rw [List.getD_eq_getElem?_getD, List.getElem?_append_left (by rw [hl]; unfold fAt at h1 hk; omega), ← List.getD_eq_getElem?_getD]
      exact ih
theorem rnF_at {fs : List (List Int)} {n j k : Nat} (hj : j < fs.length) (hk : k < (fAt fs j).length) : fAt (rnF fs n) (sumTo fs j + k) = corR fs n j k := rnF'_at hk _ hj
theorem rnF_len (fs : List (List Int)) (n : Nat) : (rnF fs n).length = sumTo fs fs.length := rnF'_len fs n _
/-- the facets of the new net so far -/
structure CpX (wd wr : World) (ob : Nat) (hd : Value) (FS : List (List Int)) (c : Nat) (v : Value) (g : Nat → Nat) (cs : List Value) : Prop where
  row : ORow0 wr 38 1 v c cs
  fr : FR wr wd.heap.size v g FS c cs
  new : ∀ b, v.ownBlock = some b → wd.heap.size ≤ b
  own : OwnC wr ob #[hd, v] 27
  ch : Ch (fun c => c = ob) wd wr
theorem CpX.start {wd : World} {ob : Nat} {hd : Value} {FS : List (List Int)} (h : OwnC wd ob #[hd, .slice none 0 0] 27) : CpX wd wd ob hd FS 0 (.slice none 0 0) (fun _ => 0) [] :=
  ⟨ORow0.nil _ _ _, FR.nil _ _ _ _ _, fun b e => (by cases e), h, Ch.refl _ _⟩
theorem CpX.below {wd wr w' : World} {ob c : Nat} {hd v : Value} {FS : List (List Int)} {g : Nat → Nat} {cs : List Value} (h : CpX wd wr ob hd FS c v g cs) (hb : Below wr.heap.size wr w') : CpX wd w' ob hd FS c v g cs :=
  ⟨ORow0.below h.row hb, h.fr.below hb, h.new, h.own.below hb h.own.lt, h.ch.trans (P' := fun _ => False) (Ch.below hb) (fun _ k => k.elim)⟩
structure CpS (wd wr w7 : World) (ob : Nat) (hd : Value) (FS : List (List Int)) (c : Nat) (v : Value) (b6 b7 c7 : Nat) (g : Nat → Nat) (cs : List Value) : Prop where
  i : CpX wd (w7.setCell ⟨ob, 1, none⟩ (.slice (some ⟨b7, 0, none⟩) (c + 1) c7)) ob hd FS (c + 1) (.slice (some ⟨b7, 0, none⟩) (c + 1) c7) (fun i => if i = c then b6 else g i) cs
  kept : ∀ d, d < wr.heap.size → d ≠ ob → v.ownBlock ≠ some d → (w7.setCell ⟨ob, 1, none⟩ (.slice (some ⟨b7, 0, none⟩) (c + 1) c7)).heap[d]? = wr.heap[d]?
  kept7 : ∀ d, d < wr.heap.size → v.ownBlock ≠ some d → w7.heap[d]? = wr.heap[d]?
  own7 : OwnC w7 ob #[hd, v] 27
  size : wr.heap.size ≤ w7.heap.size
  blk : v.ownBlock = some b7 ∨ wr.heap.size ≤ b7
theorem CpX.step {wd wr w6 w7 : World} {ob c : Nat} {hd v : Value} {FS : List (List Int)} {g : Nat → Nat} {cs : List Value} {b6 c6 b7 c7 : Nat} (h : CpX wd wr ob hd FS c v g cs) (hob : ob < wd.heap.size) (h6 : Below wr.heap.size wr w6) (r6 : ORow w6 2 1 b6 c6 (fAt FS c).length ((fAt FS c).map (Value.int .i64))) (hb6 : wr.heap.size ≤ b6)
    (hg7 : (w6.alloc (.cells #[.slice (some ⟨b6, 0, none⟩) (fAt FS c).length c6] 38)).grownBy w7 v.ownBlock)
    (r7 : ORow w7 38 1 b7 c7 (c + 1) (cs ++ [.slice (some ⟨b6, 0, none⟩) (fAt FS c).length c6])) (hb7 : v.ownBlock = some b7 ∨ b7 = w6.heap.size + 1) :
    CpS wd wr w7 ob hd FS c v b6 b7 c7 g (cs ++ [.slice (some ⟨b6, 0, none⟩) (fAt FS c).length c6]) := by
  have z5 := h.ch.size
  have z6 := h6.size
  have z7 : w6.heap.size + 1 ≤ w7.heap.size := by have := hg7.size; simpa using this
  have hl : cs.length = c := by have := h.row.1; omega
  have hbo : wd.heap.size ≤ b7 := by
    rcases hb7 with e | e
    · exact h.new _ e
    · omega
  have hne : ∀ d, d < w6.heap.size → v.ownBlock ≠ some d → w7.heap[d]? = w6.heap[d]? := fun d hc hv => (hg7.block d (by simp; omega) (fun e => hv e.symm)).trans (Below.heap_alloc _ _ _ hc)
  have hvo : v.ownBlock ≠ some ob := fun e => by have := h.new _ e; omega
  have hown7 : OwnC w7 ob #[hd, v] 27 := (hne ob (by omega) hvo).trans (h.own.below h6 (by omega))
  refine ⟨⟨ORow0.set r7.row0 _ _ _ (by simp [Value.ownBlock]; omega), FR.set ?_ _ _ _ hob, fun b e => ?_, (hown7.set 1 _).congr rfl, ?_⟩, fun d hd1 h1 h2 => ?_, fun d hd1 h2 => (hne d (by omega) h2).trans (h6.block d hd1), hown7, by omega, hb7.imp id (by omega)⟩
  · refine (h.fr.below h6).step hl (by omega) (fun i hi => by have := (h.fr.blk i hi).2.1; omega) (fun e => by have := ORow0.lt h.row e; omega) r6 (by omega) hne ?_
    rcases hb7 with e | e
    · exact .inl (by rw [e]; rfl)
    · exact .inr ⟨b7, rfl, by omega⟩
  · simp [Value.ownBlock] at e; omega
  · have c1 : Ch (fun c => c = ob) wd w6 := h.ch.trans (P' := fun _ => False) (Ch.below h6) (fun b hb => hb.elim)
    have c2 : Ch (fun c => v.ownBlock = some c) w6 w7 := ⟨hg7.os, hg7.tape, hg7.output, by omega, hne⟩
    have c3 : Ch (fun c => c = ob) wd w7 := c1.trans c2 (fun b hb => .inr (h.new b hb))
    exact c3.trans (P' := fun c => c = ob) (Ch.set _ _ _ rfl) (fun b hb => .inl hb)
  · rw [Below.heap_setCell _ _ _ _ h1, hne d (by omega) h2]
    exact h6.block d hd1
/-- a block of cells, filled: a row -/
theorem ORow.full (w : World) (e : TypeId) (cs : Array Value) (hm : cs.size ≤ 1048576) : ORow (w.alloc (.cells cs e)) e 1 w.heap.size cs.size cs.size cs.toList :=
  ⟨by simp, .inr ⟨w.heap.size, cs.size, cs, rfl, Nat.le_refl _, heap_alloc_new w _, Nat.le_refl _, by simp [maxLen]; omega, by simp, by rw [Nat.mul_one]; exact List.take_of_length_le (by simp)⟩⟩
theorem CpX.step4 {wd wq w7 : World} {ob c : Nat} {hd v : Value} {FS : List (List Int)} {g : Nat → Nat} {cs : List Value} {b7 c7 : Nat} {a b d e : Int} (h : CpX wd wq ob hd FS c v g cs) (hob : ob < wd.heap.size) (hat : fAt FS c = [a, b, d, e])
    (hg7 : ((wq.alloc (.cells #[.int .i64 a, .int .i64 b, .int .i64 d, .int .i64 e] 2)).alloc (.cells #[.slice (some ⟨wq.heap.size, 0, none⟩) 4 4] 38)).drew.grownBy w7 v.ownBlock)
    (r7 : ORow w7 38 1 b7 c7 (c + 1) (cs ++ [.slice (some ⟨wq.heap.size, 0, none⟩) 4 4])) (hb7 : v.ownBlock = some b7 ∨ b7 = wq.heap.size + 1 + 1) :
    CpS wd wq w7 ob hd FS c v wq.heap.size b7 c7 g (cs ++ [.slice (some ⟨wq.heap.size, 0, none⟩) 4 4]) := by
  have hl : (fAt FS c).length = 4 := by rw [hat]; rfl
  have h6 : Below wq.heap.size wq ((wq.drew).alloc (.cells #[.int .i64 a, .int .i64 b, .int .i64 d, .int .i64 e] 2)) := (below_dr (Below.refl _ _) 1).alloc (Nat.le_refl _) _
  have hr := ORow.full wq.drew 2 #[.int .i64 a, .int .i64 b, .int .i64 d, .int .i64 e] (by simp)
  have hst := h.step (w6 := (wq.drew).alloc (.cells #[.int .i64 a, .int .i64 b, .int .i64 d, .int .i64 e] 2)) (b6 := wq.heap.size) (c6 := 4) (w7 := w7) (b7 := b7) (c7 := c7) hob h6 (by rw [hat]; exact hr) (Nat.le_refl _) (by rw [hl]; exact hg7) (by rw [hl]; exact r7) (hb7.imp id (fun k => by rw [k]; simp))
  rw [hl] at hst
  exact hst
theorem pl_look {w : World} {M n : Nat} {fs : List (List Int)} {base : Nat} (h : OMap w M n (plM fs base (fsts fs).length)) {x y : Int} (hx : In64 x) (hy : In64 y) :
    Sem.run Try.prog (Instr.lookup 67 (.map (some M)) (.agg #[.int .i64 x, .int .i64 y]) false) w = .ok (.int .i64 (plI fs base x y)) w := by
  have hz : (zeroValue 2).run Try.prog w = .ok (.int .i64 0) w := by kernel_rfl
  have := omap_look h (t := 67) Try.underlying67 hz false hx hy
  rw [plI_getD] at this
  exact this
theorem two_allocs (w : World) (o1 o2 : Obj) : ((w.alloc o1).alloc o2).drew.heap[w.heap.size + 1]? = some o2 := by
  show ((w.alloc o1).alloc o2).heap[w.heap.size + 1]? = _
  have := heap_alloc_new (w.alloc o1) o2
  rw [World.size_alloc] at this
  exact this
end Go.Proofs.Ytkjljajjjhfklaa

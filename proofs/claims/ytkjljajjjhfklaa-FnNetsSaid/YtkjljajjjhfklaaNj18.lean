/- Appends of whole slices onto rows of the walk's own; copies of slices. Contracts: copies of slices, and of facets, the program's. A region that calls, and makes one block of its own: where it stands. -/
import Derived.Test.YtkjljajjjhfklaaNj03
import Derived.Test.YtkjljajjjhfklaaNj07
import Derived.Test.YtkjljajjjhfklaaNj02
import Derived.Test.YtkjljajjjhfklaaNj06
import Derived.Test.YtkjljajjjhfklaaNj01
namespace Go.Fl
/-- of w's own row: nothing yet, or a block of it -/
def ORow0 (w : World) (e : TypeId) (size : Nat) (v : Value) (n : Nat) (cs : List Value) : Prop := w.ownsRow 0 e size v n cs
theorem ORow.row0 {w : World} {e : TypeId} {size b cap n : Nat} {cs : List Value} (h : ORow w e size b cap n cs) : ORow0 w e size (.slice (some ⟨b, 0, none⟩) n cap) n cs := by
  obtain ⟨q1, q2⟩ := h
  refine ⟨q1, ?_⟩
  rcases q2 with ⟨q3, _⟩ | ⟨g, c, cur, hv, _, r⟩
  · cases q3
  · exact .inr ⟨g, c, cur, hv, Nat.zero_le _, r⟩
theorem ownsRow.orow {w : World} {e : TypeId} {size B b cap n : Nat} {cs : List Value} (h : w.ownsRow B e size (.slice (some ⟨b, 0, none⟩) n cap) n cs) : ORow w e size b cap n cs := by
  obtain ⟨q1, q2⟩ := h
  refine ⟨q1, ?_⟩
  rcases q2 with ⟨q3, _⟩ | ⟨g2, c, cur, hv, _, r⟩
  · cases q3
  · refine .inr ⟨g2, c, cur, hv, ?_, r⟩
    have : g2 = b := by simpa using (Value.slice.inj hv).1.symm
    omega
/-- an append of a slice that lies elsewhere -/
theorem wpList_spread {P : Program} {ops : Array Oper} {rest : List Oper} {o : Oper} {a : Act} {Q : Exit → Act → World → Prop} (hgd : o.guard = none) (s x : Operand) (t : TypeId)
    (ho : o.op = .call { callee := .builtin .append, args := #[s, x], argTypes := #[t, t] })
    (e : TypeId) (z : Value) (size bytes : Nat) (ht : P.underlying t = some (.slice e)) (hinfo : (P.info? e).map (fun i => (i.zero, i.size, i.bytes)) = some (some z, size, bytes)) (hzs : z.cells.size = size) (hsz : 0 < size)
    (w0 : World) (b cap n : Nat) (cs : List Value) (hs : a.eval s = .slice (some ⟨b, 0, none⟩) n cap) (hrow : ORow w0 e size b cap n cs)
    (ad : Addr) (m c : Nat) (news : List Value) (hx : a.eval x = .slice (some ad) m c) (hl : news.length = m * size) (hnews : ∀ j u, news[j]? = some u → w0.cell? (ad.add j) = some u) (h1 : ∀ u ∈ news, u.oneCell' = true)
    (hm : 0 < m) (hmn : n + m ≤ 1099511627776) (hby : bytes ≤ 64)
    (h : ∀ b' cap' w1, ORow w1 e size b' cap' (n + m) (cs ++ news) → (b' = b ∨ b' = w0.heap.size) → b' < w1.heap.size → Grew b w0 w1 → wpList P ops Q rest (a.put o.dst (.slice (some ⟨b', 0, none⟩) (n + m) cap')) w1) :
    wpList P ops Q (o :: rest) a w0 := by
  obtain ⟨i, hi, hzz⟩ := Option.map_eq_some_iff.1 hinfo
  simp only [Prod.mk.injEq] at hzz
  obtain ⟨hz, hs1, hb1⟩ := hzz
  refine wpList_append_lies w0 hgd s x t ho 0 e i z size bytes ht hi hz hs1 hb1 hzs hsz _ n cs hs hrow.row0 ad m c news hx hl hnews h1 hm (by simp [maxLen]; omega)
    (Nat.le_trans (Nat.mul_le_mul_left (n + m) hby) (by omega)) (Nat.zero_le _) w0.heap.size rfl ?_
  intro g cap1 w1 hown hgrow hat hlt
  have hg : g = b ∨ g = w0.heap.size := by
    rcases hat with hat | hat
    · exact .inl (by simpa [Value.ownBlock] using hat.symm)
    · exact .inr hat
  refine h g cap1 w1 (ownsRow.orow hown) hg hlt ⟨hgrow.os, hgrow.tape, hgrow.output, hgrow.size, fun c hc hne => ?_⟩
  exact hgrow.block c hc (by simp [Value.ownBlock, hne])
theorem step_spread {P : Program} {ops : Array Oper} {o : Oper} {a : Act} {K : Act → World → Prop} {Q : Exit → Act → World → Prop} {E : Prop} (hgd : o.guard = none) (s x : Operand) (t : TypeId)
    (ho : o.op = .call { callee := .builtin .append, args := #[s, x], argTypes := #[t, t] })
    (e : TypeId) (z : Value) (size bytes : Nat) (ht : P.underlying t = some (.slice e)) (hinfo : (P.info? e).map (fun i => (i.zero, i.size, i.bytes)) = some (some z, size, bytes)) (hzs : z.cells.size = size) (hsz : 0 < size)
    (w0 : World) (v : Value) (n : Nat) (cs : List Value) (hs : a.eval s = v) (hrow : ORow0 w0 e size v n cs)
    (ad : Addr) (m c : Nat) (news : List Value) (hx : a.eval x = .slice (some ad) m c) (hl : news.length = m * size) (hnews : ∀ j u, news[j]? = some u → w0.cell? (ad.add j) = some u) (h1 : ∀ u ∈ news, u.oneCell' = true)
    (hm : 0 < m) (hmn : n + m ≤ 1099511627776) (hby : bytes ≤ 64)
    (h : ∀ b' cap' w1, ORow w1 e size b' cap' (n + m) (cs ++ news) → (v.ownBlock = some b' ∨ b' = w0.heap.size) → b' < w1.heap.size → w0.grownBy w1 v.ownBlock → K (a.put o.dst (.slice (some ⟨b', 0, none⟩) (n + m) cap')) w1) :
    if Region.wanted o (yielded ops a.tmps) = true then Oper.wp P o a w0 K Q else E := by
  obtain ⟨i, hi, hzz⟩ := Option.map_eq_some_iff.1 hinfo
  simp only [Prod.mk.injEq] at hzz
  obtain ⟨hz, hs1, hb1⟩ := hzz
  exact step_append_lies w0 hgd s x t ho 0 e i z size bytes ht hi hz hs1 hb1 hzs hsz v n cs hs hrow ad m c news hx hl hnews h1 hm (by simp [maxLen]; omega)
    (Nat.le_trans (Nat.mul_le_mul_left (n + m) hby) (by omega)) (Nat.zero_le _) w0.heap.size rfl
    (fun g cap1 w1 hown hgrow hat hlt => h g cap1 w1 (ownsRow.orow hown) hat hlt hgrow)
/-- the cells of numbers that a slice holds -/
theorem SlI.news {w : World} {lo hi b off : Nat} {xs : List Int} (h : SlI w lo hi (some ⟨b, off, none⟩) xs) : ∀ j u, (xs.map (Value.int .i64))[j]? = some u → w.cell? ((⟨b, off, none⟩ : Addr).add j) = some u := fun j u hu => by
  have hj : j < xs.length := by
    have := (List.getElem?_eq_some_iff.1 hu).1
    simpa using this
  obtain ⟨b', off', e, _, _, hc⟩ := h (by omega)
  cases e
  have hadd : (⟨b, off, none⟩ : Addr).add j = ⟨b, off + j, none⟩ := by
    cases j
    · simp [Addr.add]
    · simp [Addr.add]
  rw [hadd, hc j hj, ← hu]
  simp [iAt, hj]
end Go.Fl

namespace Go.Fl
theorem ORow.cap {w : World} {e : TypeId} {size b cap n : Nat} {cs : List Value} (h : ORow w e size b cap n cs) : n ≤ cap := by
  obtain ⟨hl, hr⟩ := h
  rcases hr with ⟨hn, _⟩ | ⟨g, c, cur, hv, hb, hg, h1, _⟩
  · cases hn
  · have : cap = c := by simpa using (Value.slice.inj hv).2.2
    omega
theorem ints_one {xs : List Int} : ∀ u ∈ xs.map (Value.int .i64), u.oneCell' = true := fun u hu => by
  obtain ⟨x, _, rfl⟩ := List.mem_map.1 hu
  rfl
/-- the cells of spots that a slice holds -/
theorem SlP.news {w : World} {lo hi b off : Nat} {ps : List Sp} (h : SlP w lo hi (some ⟨b, off, none⟩) ps) : ∃ cs : List Value, cs.length = ps.length * 3 ∧ SpL cs ps ∧ (∀ u ∈ cs, u.oneCell' = true) ∧ ∀ j u, cs[j]? = some u → w.cell? ((⟨b, off, none⟩ : Addr).add j) = some u := by
  have key : ∀ m, m ≤ ps.length → ∃ cs : List Value, cs.length = m * 3 ∧ SpL cs (ps.take m) ∧ (∀ u ∈ cs, u.oneCell' = true) ∧ ∀ j u, cs[j]? = some u → w.cell? ⟨b, off + j, none⟩ = some u := by
    intro m
    induction m with
    | zero => exact fun _ => ⟨[], rfl, by simpa using SpL.nil, (fun u hu => by cases hu), (fun j u hu => by simp at hu)⟩
    | succ m ih =>
      intro hm
      obtain ⟨cs, h1, h2, h3, h4⟩ := ih (by omega)
      obtain ⟨b', off', e, _, _, hc⟩ := h (by omega)
      cases e
      obtain ⟨x, y, z, c1, c2, c3, g1, g2, g3⟩ := hc m (by omega)
      refine ⟨cs ++ [.float .f32 x, .float .f32 y, .float .f32 z], by simp [h1]; omega, ?_, ?_, ?_⟩
      · rw [take_snoc (by omega)]
        exact h2.snoc (by rw [h1, List.length_take, Nat.min_eq_left (by omega)]) (IsSp.of g1 g2 g3)
      · intro u hu
        rcases List.mem_append.1 hu with hu | hu
        · exact h3 u hu
        · simp at hu
          rcases hu with rfl | rfl | rfl <;> rfl
      · intro j u hu
        by_cases hj : j < cs.length
        · rw [List.getElem?_append_left hj] at hu
          exact h4 j u hu
        · rw [List.getElem?_append_right (by omega)] at hu
          have : j = cs.length ∨ j = cs.length + 1 ∨ j = cs.length + 2 := by
            have := (List.getElem?_eq_some_iff.1 hu).1
            simp at this; omega
          rcases this with rfl | rfl | rfl
          · simp at hu; subst hu; rw [h1]; exact c1
          · simp at hu; subst hu; rw [h1, ← Nat.add_assoc]; exact c2
          · simp at hu; subst hu; rw [h1, ← Nat.add_assoc]; exact c3
  obtain ⟨cs, h1, h2, h3, h4⟩ := key ps.length (Nat.le_refl _)
  rw [List.take_length] at h2
  refine ⟨cs, h1, h2, h3, fun j u hu => ?_⟩
  have hadd : (⟨b, off, none⟩ : Addr).add j = ⟨b, off + j, none⟩ := by
    cases j
    · simp [Addr.add]
    · simp [Addr.add]
  rw [hadd]
  exact h4 j u hu
end Go.Fl
namespace Go.Proofs.Ytkjljajjjhfklaa
open Go.RowKit Go.Fl

set_option maxHeartbeats 1000000 in
set_option maxRecDepth 100000 in
theorem cloneI (lo hi : Nat) (ao : Option Addr) (c : Nat) (xs : List Int) (h0 : 0 < xs.length) (hn : xs.length ≤ 1048576) (w : World) (hs : SlI w lo hi ao xs) (hh : hi ≤ w.heap.size) :
    Calls Try.prog 61 #[.slice ao xs.length c] w fun e w' => (∃ b cap, e = .returned (.slice (some ⟨b, 0, none⟩) xs.length cap) ∧ w.heap.size ≤ b ∧ b < w'.heap.size ∧ ORow w' 2 1 b cap xs.length (xs.map (Value.int .i64))) ∧ Below w.heap.size w w' := by
  obtain ⟨b0, o0, rfl, l1, l2, _⟩ := hs h0
  have hsA : SlI (w.alloc (.cells #[] 2)) lo hi (some ⟨b0, o0, none⟩) xs := hs.far ((Far.refl _ _ _).alloc _ hh)
  have HS := Lib.hid hsA
  have HH0 := Lib.hid h0
  clear hs hsA h0
  have he : ∀ w : World, (binOp .eql 29 (.slice (some ⟨b0, o0, none⟩) xs.length c) (.slice none 0 0)).run Try.prog w = .ok (.bool false) w := fun _ => rfl
  go_enter Try.func61, Try.ntmps61
  go_wp2_with (at_builtin; refine wpList_spread rfl _ _ _ rfl 2 (.int .i64 0) 1 8 Try.underlying29 infoInt rfl (by decide) _ w.heap.size 0 0 [] rfl (ORow.new w _ _) _ xs.length _ (xs.map (Value.int .i64)) rfl (by simp) HS.out.news ints_one HH0.out (by omega) (by decide) ?_; intro b1 cap1 w1 hr1 hb1 hl1 hg1)
  go_ret
  simp only [World.size_alloc] at hb1
  simp only [Nat.zero_add, List.nil_append] at hr1
  exact ⟨⟨b1, cap1, by simp, by omega, hl1, hr1⟩, Below.trans (by (repeat (first | exact Below.refl _ _ | assumption | refine below_dr ?_ _ | refine Below.alloc ?_ (by first | omega | (simp; done) | (simp; omega)) _ | refine Below.setCell ?_ (by first | omega | (simp; done) | (simp; omega)) _ | refine Below.trans ?_ (Below.mono (by assumption) (by first | omega | (simp; done) | (simp; omega)))))) (hg1.below (Nat.le_refl _) (by simp))⟩

set_option maxHeartbeats 1000000 in
set_option maxRecDepth 100000 in
theorem cloneP (lo hi : Nat) (ao : Option Addr) (c : Nat) (ps : List Sp) (h0 : 0 < ps.length) (hn : ps.length ≤ 1048576) (w : World) (hs : SlP w lo hi ao ps) (hh : hi ≤ w.heap.size) :
    Calls Try.prog 34 #[.slice ao ps.length c] w fun e w' => (∃ b cap cs, e = .returned (.slice (some ⟨b, 0, none⟩) ps.length cap) ∧ w.heap.size ≤ b ∧ b < w'.heap.size ∧ ORow w' 46 3 b cap ps.length cs ∧ SpL cs ps) ∧ Below w.heap.size w w' := by
  obtain ⟨b0, o0, rfl, l1, l2, _⟩ := hs h0
  have hsA : SlP (w.alloc (.cells #[] 46)) lo hi (some ⟨b0, o0, none⟩) ps := hs.far ((Far.refl _ _ _).alloc _ hh)
  obtain ⟨cs, n1, n2, n3, n4⟩ := hsA.news
  have N1 := Lib.hid n1
  have N2 := Lib.hid n2
  have N3 := Lib.hid n3
  have N4 := Lib.hid n4
  have HH0 := Lib.hid h0
  clear hs hsA h0 n1 n2 n3 n4
  have he : ∀ w : World, (binOp .eql 24 (.slice (some ⟨b0, o0, none⟩) ps.length c) (.slice none 0 0)).run Try.prog w = .ok (.bool false) w := fun _ => rfl
  go_enter Try.func34, Try.ntmps34
  go_wp2_with (at_builtin; refine wpList_spread rfl _ _ _ rfl 46 (.agg #[.float .f32 0, .float .f32 0, .float .f32 0]) 3 12 Try.underlying24 infoSpot' rfl (by decide) _ w.heap.size 0 0 [] rfl (ORow.new w _ _) _ ps.length _ cs rfl N1.out N4.out N3.out HH0.out (by omega) (by decide) ?_; intro b1 cap1 w1 hr1 hb1 hl1 hg1)
  go_ret
  simp only [World.size_alloc] at hb1
  simp only [Nat.zero_add, List.nil_append] at hr1
  exact ⟨⟨b1, cap1, cs, by simp, by omega, hl1, hr1, N2.out⟩, Below.trans (by (repeat (first | exact Below.refl _ _ | assumption | refine below_dr ?_ _ | refine Below.alloc ?_ (by first | omega | (simp; done) | (simp; omega)) _ | refine Below.setCell ?_ (by first | omega | (simp; done) | (simp; omega)) _ | refine Below.trans ?_ (Below.mono (by assumption) (by first | omega | (simp; done) | (simp; omega)))))) (hg1.below (Nat.le_refl _) (by simp))⟩

/-- the first j facets' headers cs, each over a block of its own, none of them the block of v -/
structure FR (w : World) (lo : Nat) (v : Value) (g : Nat → Nat) (fs : List (List Int)) (j : Nat) (cs : List Value) : Prop where
  cells : ∀ i, i < j → ∃ ci, cs[i]? = some (.slice (some ⟨g i, 0, none⟩) (fAt fs i).length ci) ∧ (fAt fs i).length ≤ ci
  blk : ∀ i, i < j → lo ≤ g i ∧ g i < w.heap.size ∧ v.ownBlock ≠ some (g i)
  inj : ∀ i k, i < k → k < j → g i ≠ g k
  room : ∀ i, i < j → Room w (g i) (fAt fs i).length
  reads : ∀ i, i < j → SlI w (g i) (g i + 1) (some ⟨g i, 0, none⟩) (fAt fs i)
theorem FR.nil (w : World) (lo : Nat) (v : Value) (g : Nat → Nat) (fs : List (List Int)) : FR w lo v g fs 0 [] :=
  ⟨fun i h => absurd h (Nat.not_lt_zero _), fun i h => absurd h (Nat.not_lt_zero _), fun i k _ h => absurd h (Nat.not_lt_zero _), fun i h => absurd h (Nat.not_lt_zero _), fun i h => absurd h (Nat.not_lt_zero _)⟩
theorem FR.below {w w' : World} {lo : Nat} {v : Value} {g : Nat → Nat} {fs : List (List Int)} {j : Nat} {cs : List Value} (h : FR w lo v g fs j cs) (hb : Below w.heap.size w w') : FR w' lo v g fs j cs :=
  ⟨h.cells, fun i hi => ⟨(h.blk i hi).1, Nat.lt_of_lt_of_le (h.blk i hi).2.1 hb.size, (h.blk i hi).2.2⟩, h.inj, fun i hi => (h.room i hi).far (lo := 0) (hi := w.heap.size) (Far.below hb (Nat.le_refl _)) (Nat.zero_le _) (h.blk i hi).2.1,
    fun i hi => (h.reads i hi).far (Far.below hb (by have := (h.blk i hi).2.1; omega))⟩
/-- an old cell is written, of no facet's block -/
theorem FR.set {w : World} {lo : Nat} {v : Value} {g : Nat → Nat} {fs : List (List Int)} {j : Nat} {cs : List Value} (h : FR w lo v g fs j cs) (b i : Nat) (u : Value) (hb : b < lo) : FR (w.setCell ⟨b, i, none⟩ u) lo v g fs j cs :=
  ⟨h.cells, fun i hi => ⟨(h.blk i hi).1, by simpa using (h.blk i hi).2.1, (h.blk i hi).2.2⟩, h.inj, fun i hi => (h.room i hi).set _ _ _,
    fun i hi => (h.reads i hi).far ((Far.refl _ _ _).set _ _ (by have := (h.blk i hi).1; simp; omega))⟩
/-- one more facet: its block came to w, then the row grew to w' -/
theorem FR.step {w w' : World} {lo : Nat} {v v' : Value} {g : Nat → Nat} {fs : List (List Int)} {j nb cap : Nat} {cs : List Value} (h : FR w lo v g fs j cs) (hcs : cs.length = j) (hlo : lo ≤ nb)
    (hnew : ∀ i, i < j → g i ≠ nb) (hv : v.ownBlock ≠ some nb) (hr : ORow w 2 1 nb cap (fAt fs j).length ((fAt fs j).map (Value.int .i64)))
    (hs : w.heap.size ≤ w'.heap.size) (hb : ∀ c, c < w.heap.size → v.ownBlock ≠ some c → w'.heap[c]? = w.heap[c]?) (hv' : v'.ownBlock = v.ownBlock ∨ ∃ c, v'.ownBlock = some c ∧ w.heap.size ≤ c) :
    FR w' lo v' (fun i => if i = j then nb else g i) fs (j + 1) (cs ++ [.slice (some ⟨nb, 0, none⟩) (fAt fs j).length cap]) := by
  have hne : ∀ c, c < w.heap.size → v.ownBlock ≠ some c → v'.ownBlock ≠ some c := fun c hc hvc e => by
    rcases hv' with h1 | ⟨d, h1, h2⟩
    · exact hvc (h1.symm.trans e)
    · rw [h1] at e; cases e; omega
  have hlt := hr.lt
  have hfar : ∀ c, c < w.heap.size → v.ownBlock ≠ some c → Far c (c + 1) w w' := fun c hc hvc d h1 h2 => by
    obtain rfl : d = c := by omega
    exact hb d hc hvc
  refine ⟨fun i hi => ?_, fun i hi => ?_, fun i k hik hk => ?_, fun i hi => ?_, fun i hi => ?_⟩
  · by_cases hij : i = j
    · subst hij
      exact ⟨cap, by rw [if_pos rfl, List.getElem?_append_right (by omega), hcs]; simp, hr.cap⟩
    · obtain ⟨ci, h1, h2⟩ := h.cells i (by omega)
      exact ⟨ci, by rw [if_neg hij, List.getElem?_append_left (by omega)]; exact h1, h2⟩
  · by_cases hij : i = j
    · subst hij
      simp only [if_true]
      exact ⟨hlo, by omega, hne _ hlt hv⟩
    · simp only [if_neg hij]
      obtain ⟨h1, h2, h3⟩ := h.blk i (by omega)
      exact ⟨h1, by omega, hne _ h2 h3⟩
  · by_cases hkj : k = j
    · subst hkj
      simp only [if_true, if_neg (show ¬ i = k by omega)]
      exact hnew i hik
    · simp only [if_neg hkj, if_neg (show ¬ i = j by omega)]
      exact h.inj i k hik (by omega)
  · by_cases hij : i = j
    · subst hij
      simp only [if_true]
      have := hr.room
      rw [Nat.mul_one] at this
      exact this.far (hfar nb hlt hv) (Nat.le_refl _) (Nat.lt_succ_self _)
    · simp only [if_neg hij]
      obtain ⟨h1, h2, h3⟩ := h.blk i (by omega)
      exact (h.room i (by omega)).far (hfar _ h2 h3) (Nat.le_refl _) (Nat.lt_succ_self _)
  · by_cases hij : i = j
    · subst hij
      simp only [if_true]
      exact (hr.ints rfl).far (hfar nb hlt hv)
    · simp only [if_neg hij]
      obtain ⟨h1, h2, h3⟩ := h.blk i (by omega)
      exact (h.reads i (by omega)).far (hfar _ h2 h3)
theorem FR.own {w : World} {lo b cap : Nat} {g : Nat → Nat} {fs : List (List Int)} {cs : List Value} (h : FR w lo (.slice (some ⟨b, 0, none⟩) fs.length cap) g fs fs.length cs) (hr : ORow w 38 1 b cap fs.length cs) (hb : lo ≤ b) : OwnF w lo w.heap.size b g fs := by
  have hc : ∀ i, i < fs.length → w.cell? ⟨b, i, none⟩ = cs[i]? := fun i hi => hr.cell i (by omega)
  refine ⟨⟨hb, hr.lt⟩, fun i hi => ?_, fun i hi => ?_, h.inj, h.room, h.reads, fun i hi ai n ci e => ?_⟩
  · obtain ⟨ci, h1, _⟩ := h.cells i hi
    exact ⟨ci, (hc i hi).trans h1⟩
  · obtain ⟨h1, h2, h3⟩ := h.blk i hi
    exact ⟨h1, h2, fun e => h3 (by rw [e]; rfl)⟩
  · obtain ⟨ci', h1, h2⟩ := h.cells i hi
    rw [hc i hi, h1] at e
    cases e
    exact h2

set_option maxHeartbeats 2000000 in
set_option maxRecDepth 100000 in
theorem copyFacets (lo hi : Nat) (fa : Option Addr) (fc : Nat) (fs : List (List Int)) (hn : fs.length ≤ 1048576) (hsh : ∀ i, i < fs.length → (fAt fs i).length ≤ 1048576) (h1 : ∀ i, i < fs.length → 0 < (fAt fs i).length) (w : World)
    (hs : SlN w lo hi fa fs) (hh : hi ≤ w.heap.size) :
    Calls Try.prog 35 #[.slice fa fs.length fc] w fun e w' => (∃ b cap g, e = .returned (.slice (some ⟨b, 0, none⟩) fs.length cap) ∧ OwnF w' w.heap.size w'.heap.size b g fs) ∧ Below w.heap.size w w' := by
  have HS := Lib.hid hs
  have HSH := Lib.hid hsh
  have H1 := Lib.hid h1
  clear hs hsh h1
  go_enter Try.func35, Try.ntmps35
  go_wp2_with fail
  go_loopw [3, 9] (fun out i wr => ∃ (j b cap : Nat) (g : Nat → Nat) (cs : List Value), j ≤ fs.length ∧ i = .int .i64 j ∧ out = .slice (some ⟨b, 0, none⟩) j cap ∧ Hid (ORow wr 38 1 b cap j cs) ∧ Hid (FR wr w.heap.size (.slice (some ⟨b, 0, none⟩) j cap) g fs j cs) ∧ w.heap.size ≤ b ∧ Hid (Below w.heap.size w wr)) (fun _ i _ => fs.length - (intOf i).toNat)
  case atStart => exact ⟨0, _, _, fun _ => 0, [], by omega, rfl, rfl, ORow.new w _ _, Lib.hid (FR.nil _ _ _ _ _), Nat.le_refl _, Below.alloc (Below.refl _ _) (Nat.le_refl _) _⟩
  case round =>
    obtain ⟨j, b, cap, g, cs, hj, rfl, rfl, HR, HF, hbb, HW⟩ := hrel
    by_cases hlt : j < fs.length
    · obtain ⟨bf, of', rfl, f1, f2, hc⟩ := HS.out (by omega)
      obtain ⟨ai, ci, hc1, hs1⟩ := hc j hlt
      have e1 := keep_cell HW.out hc1
      have k0 : (0 : Int) ≤ (j : Int) := by omega
      have k1 : (j : Int) < (fs.length : Int) := by omega
      have hlj := HSH.out j hlt
      have hlp := H1.out j hlt
      have hz := HW.out.size
      have hrl := HR.out.lt
      have HSA : Hid (SlI (wr.alloc (.cells #[.slice ai (fAt fs j).length ci] 38)) lo hi ai (fAt fs j)) := Lib.hid ((hs1.far (Far.below HW.out hh)).far ((Far.refl _ _ _).alloc _ (by omega)))
      have HAL : Hid (Below wr.heap.size wr (wr.alloc (.cells #[.slice ai (fAt fs j).length ci] 38))) := Lib.hid (Below.alloc (Below.refl _ _) (Nat.le_refl _) _)
      clear hc hc1 hs1
      go_wp2_with (first
        | (go_at_call 61; refine (cloneI lo hi ai ci (fAt fs j) hlp hlj _ HSA.out (by simp; omega)).mono ?_; rintro e w3 ⟨⟨nb, ncap, rfl, hn1, hn2, hr3⟩, hb3⟩; have HB3 : Hid (Below wr.heap.size wr w3) := Lib.hid (HAL.out.trans (hb3.mono (by simp))); have HN := Lib.hid hr3; have HR3 := Lib.hid (HR.out.below HB3.out hrl); have hzb := hb3.size; simp at hn1 hzb; clear hr3 hb3)
        | (at_builtin; refine wpList_app rfl _ _ _ rfl 38 (.agg #[.slice none 0 0]) 1 24 Try.underlying25 infoFacet rfl (by decide) _ #[.slice (some ⟨nb, 0, none⟩) (fAt fs j).length ncap] 38 rfl (by simp [Value.oneCell']) b cap _ _ rfl rfl HR3.out (by omega) (by decide) ?_; intro b5 cap5 w5 hr5 hg5 hgr5))
      have HW3 := Lib.hid (HW.out.trans (HB3.out.mono hz))
      have hz3 := HW3.out.size
      have hcl := HR.out.clen
      go_roundw
      case rel =>
        refine ⟨j + 1, b5, cap5, fun i => if i = j then nb else g i, _, by omega, by go_num, rfl, Lib.hid hr5, Lib.hid ?_, by omega, Lib.hid (HW3.out.trans (hgr5.below (by omega) hz3))⟩
        refine (HF.out.below HB3.out).step (v' := .slice (some ⟨b5, 0, none⟩) (j + 1) cap5) (by omega) (by omega) (fun i hi => by have := (HF.out.blk i hi).2.1; omega) (by simp [Value.ownBlock]; omega) HN.out hgr5.size (fun c hc hne => hgr5.block c hc (fun e => hne (by rw [e]; rfl))) ?_
        rcases hg5 with rfl | h
        · exact .inl rfl
        · exact .inr ⟨b5, rfl, by omega⟩
      case measure => simp [intOf]; omega
    · have hjn : j = fs.length := by omega
      subst hjn
      go_wp2_with fail
      go_ret
      exact ⟨⟨b, cap, g, rfl, HF.out.own HR.out hbb⟩, HW.out⟩
end Go.Proofs.Ytkjljajjjhfklaa

namespace Go.Fl
open Go.RowKit
/-- from wr on the world came to w: of the old blocks none turned; if o is a block, it is the region's own, still with cs -/
structure Trk (cs : Array Value) (T : TypeId) (wr : World) (o : Option Nat) (w : World) : Prop where
  below : Below wr.heap.size wr w
  own : ∀ b, o = some b → wr.heap.size ≤ b ∧ OwnC w b cs T
theorem Trk.start (cs : Array Value) (T : TypeId) (wr : World) : Trk cs T wr none wr.drew := ⟨⟨rfl, rfl, rfl, Nat.le_refl _, fun _ _ => rfl⟩, fun b h => by cases h⟩
theorem Trk.here (cs : Array Value) (T : TypeId) (wr : World) : Trk cs T wr none wr := ⟨⟨rfl, rfl, rfl, Nat.le_refl _, fun _ _ => rfl⟩, fun b h => by cases h⟩
theorem Trk.startA (cs : Array Value) (T : TypeId) (wr : World) : Trk cs T wr (some wr.heap.size) (wr.alloc (.cells cs T)).drew :=
  ⟨Below.drew (Below.alloc (Below.refl _ _) (Nat.le_refl _) _), fun b h => by cases h; exact ⟨Nat.le_refl _, (OwnC.new (w := wr) rfl)⟩⟩
theorem Trk.alloc {cs : Array Value} {T : TypeId} {wr w : World} (h : Trk cs T wr none w) : Trk cs T wr (some w.heap.size) (w.alloc (.cells cs T)) :=
  ⟨h.below.alloc h.below.size _, fun b e => by cases e; exact ⟨h.below.size, OwnC.new rfl⟩⟩
theorem Trk.call {cs : Array Value} {T : TypeId} {wr w w' : World} {o : Option Nat} (h : Trk cs T wr o w) (hb : Below w.heap.size w w') : Trk cs T wr o w' :=
  ⟨h.below.trans (hb.mono h.below.size), fun b e => ⟨(h.own b e).1, (h.own b e).2.below hb (h.own b e).2.lt⟩⟩
theorem Trk.dr {cs : Array Value} {T : TypeId} {wr w : World} {o : Option Nat} (h : Trk cs T wr o w) (n : Nat) : Trk cs T wr o (w.drewN n) :=
  h.call (below_drewN (Below.refl _ _) n)
/-- the cells of the old blocks, wherever it stands -/
theorem Trk.k0 {wr : World} {b o : Nat} {v : Value} (h : wr.cell? ⟨b, o, none⟩ = some v) : wr.drew.cell? ⟨b, o, none⟩ = some v := h
theorem Trk.k1 {cs : Array Value} {T : TypeId} {wr w : World} {p : Option Nat} (t : Trk cs T wr p w) {b o : Nat} {v : Value} (h : wr.cell? ⟨b, o, none⟩ = some v) : w.cell? ⟨b, o, none⟩ = some v := keep_cell t.below h
theorem Trk.k2 {cs : Array Value} {T : TypeId} {wr w : World} {p : Option Nat} (t : Trk cs T wr p w) (ob : Obj) {b o : Nat} {v : Value} (h : wr.cell? ⟨b, o, none⟩ = some v) : (w.alloc ob).cell? ⟨b, o, none⟩ = some v :=
  keep_cell (t.below.alloc t.below.size ob) h
theorem Trk.k2d {wr : World} (ob : Obj) {b o : Nat} {v : Value} (h : wr.cell? ⟨b, o, none⟩ = some v) : (wr.alloc ob).drew.cell? ⟨b, o, none⟩ = some v :=
  keep_cell (w' := (wr.alloc ob).drew) (Below.drew (Below.alloc (Below.refl _ _) (Nat.le_refl _) _)) h
theorem Trk.belowSet {cs : Array Value} {T : TypeId} {wr w : World} {b' : Nat} (t : Trk cs T wr (some b') w) (x y z : Value) : Below wr.heap.size wr (((w.setCell ⟨b', 0, none⟩ x).setCell ⟨b', 1, none⟩ y).setCell ⟨b', 2, none⟩ z) :=
  ((t.below.setCell (t.own b' rfl).1 _).setCell (t.own b' rfl).1 _).setCell (t.own b' rfl).1 _
theorem Trk.k3 {cs : Array Value} {T : TypeId} {wr w : World} {b' : Nat} (t : Trk cs T wr (some b') w) (x y z : Value) {b o : Nat} {v : Value} (h : wr.cell? ⟨b, o, none⟩ = some v) : (((w.setCell ⟨b', 0, none⟩ x).setCell ⟨b', 1, none⟩ y).setCell ⟨b', 2, none⟩ z).cell? ⟨b, o, none⟩ = some v :=
  keep_cell (t.belowSet x y z) h
theorem Trk.k3n {cs : Array Value} {T : TypeId} {wr w : World} {b' : Nat} (t : Trk cs T wr (some b') w) (x y z : Value) {b o : Nat} {v : Value} (h : wr.cell? ⟨b, o, none⟩ = some v) (n : Nat) : ((((w.setCell ⟨b', 0, none⟩ x).setCell ⟨b', 1, none⟩ y).setCell ⟨b', 2, none⟩ z).drewN n).cell? ⟨b, o, none⟩ = some v :=
  t.k3 x y z h
theorem Trk.at {cs : Array Value} {T : TypeId} {wr w : World} {b' : Nat} (t : Trk cs T wr (some b') w) (i : Nat) : w.cell? ⟨b', i, none⟩ = cs[i]? := (t.own b' rfl).2.cell i
theorem Trk.free {cs : Array Value} {T : TypeId} {wr w : World} {b' : Nat} (t : Trk cs T wr (some b') w) (i : Nat) : w.frozen? ⟨b', i, none⟩ = false := (t.own b' rfl).2.free i
/-- the block that the region made holds these three, and none of the old ones turned -/
def Made (wr : World) (T : TypeId) (cb : Nat) (cs : Array Value) (wx : World) : Prop := Below wr.heap.size wr wx ∧ OwnC wx cb cs T ∧ wr.heap.size ≤ cb
theorem Trk.made {cs : Array Value} {T : TypeId} {wr w : World} {b' : Nat} (t : Trk cs T wr (some b') w) (hc : cs.size = 3) (x y z : Value) : Made wr T b' #[x, y, z] (((w.setCell ⟨b', 0, none⟩ x).setCell ⟨b', 1, none⟩ y).setCell ⟨b', 2, none⟩ z) :=
  ⟨t.belowSet x y z, ((((t.own b' rfl).2.set 0 x).set 1 y).set 2 z).congr (by
    obtain ⟨l⟩ := cs
    match l, hc with
    | [_, _, _], _ => rfl), (t.own b' rfl).1⟩
theorem Trk.madeA {cs : Array Value} {T : TypeId} {wr w : World} {p : Option Nat} (t : Trk cs T wr p w) (cs' : Array Value) : Made wr T w.heap.size cs' (w.alloc (.cells cs' T)) :=
  ⟨t.below.alloc t.below.size _, OwnC.new rfl, t.below.size⟩
theorem Trk.madeAd {cs : Array Value} {T : TypeId} {wr w : World} {p : Option Nat} (t : Trk cs T wr p w) (cs' : Array Value) : Made wr T w.heap.size cs' (w.alloc (.cells cs' T)).drew :=
  ⟨Below.drew (t.below.alloc t.below.size _), OwnC.new (w := w) rfl, t.below.size⟩
end Go.Fl

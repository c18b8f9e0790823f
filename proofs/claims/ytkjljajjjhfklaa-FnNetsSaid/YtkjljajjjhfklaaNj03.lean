/- Contracts: whether a net is valid, the reference's. Contracts of the small functions on spots. Rows that grow by append: the walk's own. -/
import Derived.Test.YtkjljajjjhfklaaNj02
import Derived.Deep.QuietTactic
import Derived.BigQuiet
import Derived.Deep.RegionHeld3
import Derived.Deep.AppendLies
import Derived.Test.YtkjljajjjhfklaaChecked
import Derived.Test.YtkjljajjjhfklaaNj01
namespace Go.Fl
/-- all three parts are finite -/
def finSp (p : Sp) : Bool := fin p.1 && fin p.2.1 && fin p.2.2
/-- from lo to hi -/
def inB (x lo hi : Int) : Bool := decide (lo ≤ x) && decide (x ≤ hi)
/-- a proposition's answer -/
noncomputable def dec (p : Prop) : Bool := @decide p (Classical.propDecidable p)
theorem dec_yes {p : Prop} (h : p) : dec p = true := @decide_eq_true p (Classical.propDecidable p) h
theorem dec_no {p : Prop} (h : ¬ p) : dec p = false := @decide_eq_false p (Classical.propDecidable p) h
/-- the first k corners are of n spots, none of them twice -/
def FGood (n : Nat) (f : List Int) (k : Nat) : Prop := ∀ t, t < k → inB (iAt f t) 0 ((n : Int) - 1) = true ∧ ∀ s, s < t → iAt f s ≠ iAt f t
/-- a facet of a net of n spots -/
def OkF (n : Nat) (f : List Int) : Prop := 3 ≤ f.length ∧ f.length ≤ 8 ∧ FGood n f f.length
theorem OkF.not_in {n t : Nat} {f : List Int} (ht : t < f.length) (h : inB (iAt f t) 0 ((n : Int) - 1) = false) : ¬ OkF n f := fun q => by rw [(q.2.2 t ht).1] at h; cases h
theorem OkF.not_eq {n t s : Nat} {f : List Int} (ht : t < f.length) (hs : s < t) (h : iAt f s = iAt f t) : ¬ OkF n f := fun q => (q.2.2 t ht).2 s hs h
/-- the first place at which from and to hold a and b; -1 if there is none -/
def sideAt (from' to' : List Int) (a b : Int) : Int := idx (fun i => iAt from' i == a && iAt to' i == b) (List.range from'.length)
theorem sideAt_none {xs ys : List Int} {a b : Int} (h : ∀ t, t < xs.length → ¬ (iAt xs t = a ∧ iAt ys t = b)) : sideAt xs ys a b = -1 := by
  refine idx_none ?_
  rw [List.any_eq_false]
  intro i hi
  rw [List.mem_range] at hi
  have := h i hi
  simp only [Bool.and_eq_true, beq_iff_eq]
  exact this
theorem sideAt_some {xs ys : List Int} {a b : Int} {k : Nat} (hk : k < xs.length) (h : ∀ t, t < k → ¬ (iAt xs t = a ∧ iAt ys t = b)) (h1 : iAt xs k = a) (h2 : iAt ys k = b) : sideAt xs ys a b = k := by
  refine idx_some (by simpa using hk) ?_ (by simp [h1, h2])
  rw [List.any_eq_false]
  intro i hi
  rw [List.mem_take_iff_getElem] at hi
  obtain ⟨j, hj, rfl⟩ := hi
  have := h j (by simp at hj; omega)
  simp only [List.getElem_range, Bool.and_eq_true, beq_iff_eq]
  exact this
end Go.Fl
namespace Go.Proofs.Ytkjljajjjhfklaa
open Go.RowKit Go.Fl

end Go.Proofs.Ytkjljajjjhfklaa

namespace Go.Fl
/-- the bits stand for the spot p -/
def IsSp (x y z : Nat) (p : Sp) : Prop := (can .f32 x, can .f32 y, can .f32 z) = p
theorem IsSp.of {x y z : Nat} {p : Sp} (h1 : F32 x p.1) (h2 : F32 y p.2.1) (h3 : F32 z p.2.2) : IsSp x y z p := Prod.ext h1 (Prod.ext h2 h3)
theorem IsSp.f1 {x y z : Nat} {p : Sp} (h : IsSp x y z p) : F32 x p.1 := by unfold IsSp at h; subst h; rfl
theorem IsSp.f2 {x y z : Nat} {p : Sp} (h : IsSp x y z p) : F32 y p.2.1 := by unfold IsSp at h; subst h; rfl
theorem IsSp.f3 {x y z : Nat} {p : Sp} (h : IsSp x y z p) : F32 z p.2.2 := by unfold IsSp at h; subst h; rfl
def spAdd (p q : Sp) : Sp := (fadd p.1 q.1, fadd p.2.1 q.2.1, fadd p.2.2 q.2.2)
def spSub (p q : Sp) : Sp := (fsub p.1 q.1, fsub p.2.1 q.2.1, fsub p.2.2 q.2.2)
def spMul (p : Sp) (t : Nat) : Sp := (fmul p.1 t, fmul p.2.1 t, fmul p.2.2 t)
def spDiv (p : Sp) (t : Nat) : Sp := (fdiv p.1 t, fdiv p.2.1 t, fdiv p.2.2 t)
def spDot (p q : Sp) : Nat := fadd (fadd (fmul p.1 q.1) (fmul p.2.1 q.2.1)) (fmul p.2.2 q.2.2)
def spCross (p q : Sp) : Sp := (fsub (fmul p.2.1 q.2.2) (fmul p.2.2 q.2.1), fsub (fmul p.2.2 q.1) (fmul p.1 q.2.2), fsub (fmul p.1 q.2.1) (fmul p.2.1 q.1))
end Go.Fl
namespace Go.Proofs.Ytkjljajjjhfklaa
open Go.RowKit Go.Fl

set_option maxHeartbeats 1000000 in
theorem implAdd (x y z x' y' z' : Nat) (p q : Sp) (hp : IsSp x y z p) (hq : IsSp x' y' z' q) (w : World) :
    Calls Try.prog 30 #[spV x y z, spV x' y' z'] w fun e w' => (∃ a b c, e = .returned (spV a b c) ∧ IsSp a b c (spAdd p q)) ∧ Below w.heap.size w w' := by
  unfold IsSp at *
  subst hp hq
  unfold spV
  go_enter Try.func30, Try.ntmps30
  go_wp2_with (refine wpList_f rfl rfl rfl rfl (by decide) ?_; intro _ _ _; simp only [Act.put, List.setIfInBounds_toArray, List.set_cons_succ, List.set_cons_zero])
  refine bodyPost_ret (by simp [results, Try.results30, go_sem]; exact ⟨rfl, rfl, rfl⟩) rfl ⟨⟨_, _, _, rfl, ?_⟩, by (repeat (first | exact Below.refl _ _ | assumption | refine below_dr ?_ _ | refine Below.alloc ?_ (by first | omega | (simp; done) | (simp; omega)) _ | refine Below.setCell ?_ (by first | omega | (simp; done) | (simp; omega)) _ | refine Below.trans ?_ (Below.mono (by assumption) (by first | omega | (simp; done) | (simp; omega)))))⟩
  simp only [F32] at *
  simp only [spAdd, fadd, fsub, fmul, *]

set_option maxHeartbeats 1000000 in
theorem implLess (x y z x' y' z' : Nat) (p q : Sp) (hp : IsSp x y z p) (hq : IsSp x' y' z' q) (w : World) :
    Calls Try.prog 44 #[spV x y z, spV x' y' z'] w fun e w' => (∃ a b c, e = .returned (spV a b c) ∧ IsSp a b c (spSub p q)) ∧ Below w.heap.size w w' := by
  unfold IsSp at *
  subst hp hq
  unfold spV
  go_enter Try.func44, Try.ntmps44
  go_wp2_with (refine wpList_f rfl rfl rfl rfl (by decide) ?_; intro _ _ _; simp only [Act.put, List.setIfInBounds_toArray, List.set_cons_succ, List.set_cons_zero])
  refine bodyPost_ret (by simp [results, Try.results44, go_sem]; exact ⟨rfl, rfl, rfl⟩) rfl ⟨⟨_, _, _, rfl, ?_⟩, by (repeat (first | exact Below.refl _ _ | assumption | refine below_dr ?_ _ | refine Below.alloc ?_ (by first | omega | (simp; done) | (simp; omega)) _ | refine Below.setCell ?_ (by first | omega | (simp; done) | (simp; omega)) _ | refine Below.trans ?_ (Below.mono (by assumption) (by first | omega | (simp; done) | (simp; omega)))))⟩
  simp only [F32] at *
  simp only [spSub, fadd, fsub, fmul, *]

set_option maxHeartbeats 1000000 in
theorem implTimes (x y z b t : Nat) (p : Sp) (hp : IsSp x y z p) (hb : F32 b t) (w : World) :
    Calls Try.prog 32 #[spV x y z, .float .f32 b] w fun e w' => (∃ a b c, e = .returned (spV a b c) ∧ IsSp a b c (spMul p t)) ∧ Below w.heap.size w w' := by
  unfold IsSp F32 at *
  subst hp hb
  unfold spV
  go_enter Try.func32, Try.ntmps32
  go_wp2_with (refine wpList_f rfl rfl rfl rfl (by decide) ?_; intro _ _ _; simp only [Act.put, List.setIfInBounds_toArray, List.set_cons_succ, List.set_cons_zero])
  refine bodyPost_ret (by simp [results, Try.results32, go_sem]; exact ⟨rfl, rfl, rfl⟩) rfl ⟨⟨_, _, _, rfl, ?_⟩, by (repeat (first | exact Below.refl _ _ | assumption | refine below_dr ?_ _ | refine Below.alloc ?_ (by first | omega | (simp; done) | (simp; omega)) _ | refine Below.setCell ?_ (by first | omega | (simp; done) | (simp; omega)) _ | refine Below.trans ?_ (Below.mono (by assumption) (by first | omega | (simp; done) | (simp; omega)))))⟩
  simp only [F32] at *
  simp only [spMul, fmul, fdiv, *]

set_option maxHeartbeats 1000000 in
theorem implBy (x y z b t : Nat) (p : Sp) (hp : IsSp x y z p) (hb : F32 b t) (w : World) :
    Calls Try.prog 73 #[spV x y z, .float .f32 b] w fun e w' => (∃ a b c, e = .returned (spV a b c) ∧ IsSp a b c (spDiv p t)) ∧ Below w.heap.size w w' := by
  unfold IsSp F32 at *
  subst hp hb
  unfold spV
  go_enter Try.func73, Try.ntmps73
  go_wp2_with (refine wpList_f rfl rfl rfl rfl (by decide) ?_; intro _ _ _; simp only [Act.put, List.setIfInBounds_toArray, List.set_cons_succ, List.set_cons_zero])
  refine bodyPost_ret (by simp [results, Try.results73, go_sem]; exact ⟨rfl, rfl, rfl⟩) rfl ⟨⟨_, _, _, rfl, ?_⟩, by (repeat (first | exact Below.refl _ _ | assumption | refine below_dr ?_ _ | refine Below.alloc ?_ (by first | omega | (simp; done) | (simp; omega)) _ | refine Below.setCell ?_ (by first | omega | (simp; done) | (simp; omega)) _ | refine Below.trans ?_ (Below.mono (by assumption) (by first | omega | (simp; done) | (simp; omega)))))⟩
  simp only [F32] at *
  simp only [spDiv, fmul, fdiv, *]

set_option maxHeartbeats 1000000 in
theorem implCross (x y z x' y' z' : Nat) (p q : Sp) (hp : IsSp x y z p) (hq : IsSp x' y' z' q) (w : World) :
    Calls Try.prog 45 #[spV x y z, spV x' y' z'] w fun e w' => (∃ a b c, e = .returned (spV a b c) ∧ IsSp a b c (spCross p q)) ∧ Below w.heap.size w w' := by
  unfold IsSp at *
  subst hp hq
  unfold spV
  go_enter Try.func45, Try.ntmps45
  go_wp2_with (refine wpList_f rfl rfl rfl rfl (by decide) ?_; intro _ _ _; simp only [Act.put, List.setIfInBounds_toArray, List.set_cons_succ, List.set_cons_zero])
  refine bodyPost_ret (by simp [results, Try.results45, go_sem]; exact ⟨rfl, rfl, rfl⟩) rfl ⟨⟨_, _, _, rfl, ?_⟩, by (repeat (first | exact Below.refl _ _ | assumption | refine below_dr ?_ _ | refine Below.alloc ?_ (by first | omega | (simp; done) | (simp; omega)) _ | refine Below.setCell ?_ (by first | omega | (simp; done) | (simp; omega)) _ | refine Below.trans ?_ (Below.mono (by assumption) (by first | omega | (simp; done) | (simp; omega)))))⟩
  simp only [F32] at *
  simp only [spCross, fadd, fsub, fmul, *]

set_option maxHeartbeats 1000000 in
theorem implDot (x y z x' y' z' : Nat) (p q : Sp) (hp : IsSp x y z p) (hq : IsSp x' y' z' q) (w : World) :
    Calls Try.prog 49 #[spV x y z, spV x' y' z'] w fun e w' => (∃ r, e = .returned (.float .f32 r) ∧ F32 r (spDot p q)) ∧ Below w.heap.size w w' := by
  unfold IsSp at *
  subst hp hq
  unfold spV
  go_enter Try.func49, Try.ntmps49
  go_wp2_with (refine wpList_f rfl rfl rfl rfl (by decide) ?_; intro _ _ _; simp only [Act.put, List.setIfInBounds_toArray, List.set_cons_succ, List.set_cons_zero])
  go_ret
  refine ⟨⟨_, rfl, ?_⟩, by (repeat (first | exact Below.refl _ _ | assumption | refine below_dr ?_ _ | refine Below.alloc ?_ (by first | omega | (simp; done) | (simp; omega)) _ | refine Below.setCell ?_ (by first | omega | (simp; done) | (simp; omega)) _ | refine Below.trans ?_ (Below.mono (by assumption) (by first | omega | (simp; done) | (simp; omega)))))⟩
  simp only [F32] at *
  simp only [spDot, fadd, fmul, *]

end Go.Proofs.Ytkjljajjjhfklaa

namespace Go.Fl

/-- the slice at block b of length n and capacity cap is the walk's own and holds the cells cs -/
def ORow (w : World) (e : TypeId) (size b cap n : Nat) (cs : List Value) : Prop := w.ownsRow b e size (.slice (some ⟨b, 0, none⟩) n cap) n cs
/-- from w0 to w1 blocks came, and of the old ones block b alone turned -/
structure Grew (b : Nat) (w0 w1 : World) : Prop where
  os : w1.os = w0.os
  tape : w1.tape = w0.tape
  output : w1.output = w0.output
  size : w0.heap.size ≤ w1.heap.size
  block : ∀ c, c < w0.heap.size → c ≠ b → w1.heap[c]? = w0.heap[c]?
theorem Grew.below {b B : Nat} {w0 w1 : World} (h : Grew b w0 w1) (hb : B ≤ b) (hs : B ≤ w0.heap.size) : RowKit.Below B w0 w1 := ⟨h.os, h.tape, h.output, h.size, fun c hc => h.block c (by omega) (by omega)⟩
theorem Grew.far {b lo hi : Nat} {w0 w1 : World} (h : Grew b w0 w1) (hs : hi ≤ w0.heap.size) (hd : hi ≤ b ∨ b < lo) : Far lo hi w0 w1 := fun c h1 h2 => h.block c (by omega) (by omega)
theorem ORow.lt {w : World} {e : TypeId} {size b cap n : Nat} {cs : List Value} (h : ORow w e size b cap n cs) : b < w.heap.size := (World.ownsRow.lt (show w.ownsRow b e size _ n cs from h) b rfl).2
theorem ORow.far {w w' : World} {e : TypeId} {size b cap n lo hi : Nat} {cs : List Value} (h : ORow w e size b cap n cs) (hf : Far lo hi w w') (h1 : lo ≤ b) (h2 : b < hi) : ORow w' e size b cap n cs := by
  obtain ⟨hl, hr⟩ := h
  refine ⟨hl, ?_⟩
  rcases hr with ⟨hn, _⟩ | ⟨g, c, cur, hv, hb, hg, rest⟩
  · cases hn
  · refine .inr ⟨g, c, cur, hv, hb, ?_, rest⟩
    have : g = b := by simpa using (Value.slice.inj hv).1.symm
    subst this
    exact (hf g h1 h2).trans hg
theorem ORow.below {w w' : World} {e : TypeId} {size b cap n B : Nat} {cs : List Value} (h : ORow w e size b cap n cs) (hb : RowKit.Below B w w') (hl : b < B) : ORow w' e size b cap n cs :=
  h.far (lo := 0) (Far.below hb (Nat.le_refl _)) (Nat.zero_le _) hl
theorem ORow.grew {w w' : World} {e : TypeId} {size b b' cap n : Nat} {cs : List Value} (h : ORow w e size b cap n cs) (hg : Grew b' w w') (hne : b ≠ b') : ORow w' e size b cap n cs :=
  h.far (lo := b) (hi := b + 1) (fun c h1 h2 => hg.block c (by have := h.lt; omega) (by omega)) (Nat.le_refl _) (Nat.lt_succ_self _)
theorem ORow.new (w : World) (e : TypeId) (size : Nat) : ORow (w.alloc (.cells #[] e)) e size w.heap.size 0 0 [] :=
  World.ownsRow_made w #[] 0 (Nat.le_refl _) (by simp [maxLen]) (by simp)
theorem ORow.block {w : World} {e : TypeId} {size b cap n : Nat} {cs : List Value} (h : ORow w e size b cap n cs) : ∃ cur, OwnC w b cur e ∧ n * size ≤ cur.size ∧ cur.toList.take (n * size) = cs ∧ cs.length = n * size := by
  obtain ⟨hl, hr⟩ := h
  rcases hr with ⟨hn, _⟩ | ⟨g, c, cur, hv, hb, hg, h1, h2, h3, h4⟩
  · cases hn
  · have hgb : g = b := by simpa using (Value.slice.inj hv).1.symm
    subst hgb
    exact ⟨cur, hg, by rw [h3]; exact Nat.mul_le_mul_right _ h1, h4, hl⟩
theorem ORow.room {w : World} {e : TypeId} {size b cap n : Nat} {cs : List Value} (h : ORow w e size b cap n cs) : Room w b (n * size) := by
  obtain ⟨cur, h1, h2, _⟩ := h.block
  exact ⟨cur, e, h1, h2⟩
theorem ORow.cell {w : World} {e : TypeId} {size b cap n : Nat} {cs : List Value} (h : ORow w e size b cap n cs) (i : Nat) (hi : i < n * size) : w.cell? ⟨b, i, none⟩ = cs[i]? := by
  obtain ⟨cur, h1, h2, h3, _⟩ := h.block
  rw [h1.cell, ← h3, List.getElem?_take_of_lt hi, Array.getElem?_toList]
/-- a row of numbers -/
theorem ORow.ints {w : World} {e : TypeId} {b cap n : Nat} {xs : List Int} (h : ORow w e 1 b cap n (xs.map (Value.int .i64))) (hn : n = xs.length) : SlI w b (b + 1) (some ⟨b, 0, none⟩) xs := fun _ =>
  ⟨b, 0, rfl, Nat.le_refl _, Nat.lt_succ_self _, fun i hi => by
    rw [Nat.zero_add, h.cell i (by omega)]
    simp [iAt, hi]⟩

theorem wpList_app {P : Program} {ops : Array Oper} {rest : List Oper} {o : Oper} {a : Act} {Q : Exit → Act → World → Prop} (hgd : o.guard = none) (s x : Operand) (t : TypeId)
    (ho : o.op = .call { callee := .builtin .append, args := #[s, x], argTypes := #[t, t] })
    (e : TypeId) (z : Value) (size bytes : Nat) (ht : P.underlying t = some (.slice e)) (hinfo : (P.info? e).map (fun i => (i.zero, i.size, i.bytes)) = some (some z, size, bytes)) (hzs : z.cells.size = size) (hsz : 0 < size)
    (w0 : World) (cells : Array Value) (e' : TypeId) (hc : cells.size = size) (h1 : ∀ u ∈ cells.toList, u.oneCell' = true)
    (b cap n : Nat) (cs : List Value) (hs : a.eval s = .slice (some ⟨b, 0, none⟩) n cap) (hx : a.eval x = .slice (some ⟨w0.heap.size, 0, none⟩) 1 1) (hrow : ORow w0 e size b cap n cs)
    (hn : n ≤ 1099511627776) (hby : bytes ≤ 64)
    (h : ∀ b' cap' w1, ORow w1 e size b' cap' (n + 1) (cs ++ cells.toList) → (b' = b ∨ w0.heap.size < b') → Grew b w0 w1 → wpList P ops Q rest (a.put o.dst (.slice (some ⟨b', 0, none⟩) (n + 1) cap')) w1) :
    wpList P ops Q (o :: rest) a (w0.alloc (.cells cells e')) := by
  obtain ⟨i, hi, hzz⟩ := Option.map_eq_some_iff.1 hinfo
  simp only [Prod.mk.injEq] at hzz
  obtain ⟨hz, hs1, hb1⟩ := hzz
  have hlt := hrow.lt
  have hrow' : (w0.alloc (.cells cells e')).ownsRow 0 e size (.slice (some ⟨b, 0, none⟩) n cap) n cs := by
    have := hrow.far (lo := 0) (hi := w0.heap.size) ((Far.refl _ _ w0).alloc (.cells cells e') (Nat.le_refl _)) (Nat.zero_le _) hlt
    obtain ⟨q1, q2⟩ := this
    refine ⟨q1, ?_⟩
    rcases q2 with ⟨q3, _⟩ | ⟨g, c, cur, hv, _, r⟩
    · cases q3
    · exact .inr ⟨g, c, cur, hv, Nat.zero_le _, r⟩
  refine wpList_append_lies (w0.alloc (.cells cells e')) hgd s x t ho 0 e i z size bytes ht hi hz hs1 hb1 hzs hsz _ n cs hs hrow' ⟨w0.heap.size, 0, none⟩ 1 1 cells.toList hx (by simp [hc]) (World.news_of_block (heap_alloc_new w0 _)) h1 (by omega) (by simp [maxLen]; omega)
    (Nat.le_trans (Nat.mul_le_mul_left (n + 1) hby) (by omega)) (Nat.zero_le _) (w0.heap.size + 1) (by simp) ?_
  intro g cap1 w1 hown hgrow hat _
  have hg : g = b ∨ g = w0.heap.size + 1 := by
    rcases hat with hat | hat
    · exact .inl (by simpa [Value.ownBlock] using hat.symm)
    · exact .inr hat
  refine h g cap1 w1 ?_ (hg.imp id fun h => by omega) ?_
  · obtain ⟨q1, q2⟩ := hown
    refine ⟨q1, ?_⟩
    rcases q2 with ⟨q3, _⟩ | ⟨g2, c, cur, hv, _, r⟩
    · cases q3
    · refine .inr ⟨g2, c, cur, hv, ?_, r⟩
      have : g2 = g := by simpa using (Value.slice.inj hv).1.symm
      omega
  · refine ⟨hgrow.os, hgrow.tape, hgrow.output, Nat.le_trans (by simp) hgrow.size, fun c hc hne => ?_⟩
    rw [hgrow.block c (by simp; omega) (by simp [Value.ownBlock, hne])]
    exact RowKit.Below.heap_alloc _ _ _ hc
theorem wpList_app2 {P : Program} {ops : Array Oper} {rest : List Oper} {o : Oper} {a : Act} {Q : Exit → Act → World → Prop} (hgd : o.guard = none) (s x : Operand) (t : TypeId)
    (ho : o.op = .call { callee := .builtin .append, args := #[s, x], argTypes := #[t, t] })
    (e : TypeId) (z : Value) (size bytes : Nat) (ht : P.underlying t = some (.slice e)) (hinfo : (P.info? e).map (fun i => (i.zero, i.size, i.bytes)) = some (some z, size, bytes)) (hzs : z.cells.size = size) (hsz : 0 < size)
    (w0 : World) (cells : Array Value) (e' : TypeId) (hc : cells.size = size) (h1 : ∀ u ∈ cells.toList, u.oneCell' = true)
    (nb b cap n : Nat) (cs : List Value) (hs : a.eval s = .slice (some ⟨b, 0, none⟩) n cap) (hx : a.eval x = .slice (some ⟨nb, 0, none⟩) 1 1) (hnb : nb = w0.heap.size) (hrow : ORow w0 e size b cap n cs)
    (hn : n ≤ 1099511627776) (hby : bytes ≤ 64)
    (h : ∀ b' cap' w1, ORow w1 e size b' cap' (n + 1) (cs ++ cells.toList) → (b' = b ∨ w0.heap.size < b') → Grew b w0 w1 → wpList P ops Q rest (a.put o.dst (.slice (some ⟨b', 0, none⟩) (n + 1) cap')) w1) :
    wpList P ops Q (o :: rest) a (w0.alloc (.cells cells e')) := by
  subst hnb
  exact wpList_app hgd s x t ho e z size bytes ht hinfo hzs hsz w0 cells e' hc h1 b cap n cs hs hx hrow hn hby h
end Go.Fl

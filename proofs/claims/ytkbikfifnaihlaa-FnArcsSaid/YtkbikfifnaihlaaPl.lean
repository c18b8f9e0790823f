/- Plain functions on numbers whose not-a-numbers are made one, and what the tests of the program are of them. -/
import Derived.Test.YtkbikfifnaihlaaFl
import Derived.Lib.Hide
namespace Go.Fl

/-- The bits b stand for x. -/
def F32 (b x : Nat) : Prop := can .f32 b = x
theorem F32.mk (b : Nat) : F32 b (can .f32 b) := rfl
theorem F32.op {a b x y : Nat} {w : World} (op : BinOp) (ha : F32 a x) (hb : F32 b y) : F32 (mop op .f32 a b w) (fop op .f32 x y) := by
  unfold F32 at *; rw [can_mop, ha, hb]
theorem F32.order {a b x y : Nat} (ha : F32 a x) (hb : F32 b y) : FloatKind.f32.format.order a b = FloatKind.f32.format.order x y := by
  unfold F32 at *; rw [← ha, ← hb, order_can]
theorem F32.lit {b : Nat} (h : nanB .f32 b = false) : F32 b b := can_of_not h

def fadd (x y : Nat) : Nat := fop .add .f32 x y
def fsub (x y : Nat) : Nat := fop .sub .f32 x y
def fmul (x y : Nat) : Nat := fop .mul .f32 x y
def fdiv (x y : Nat) : Nat := fop .quo .f32 x y
def flt (x y : Nat) : Bool := FloatKind.f32.format.order x y == some .lt
def fgt (x y : Nat) : Bool := FloatKind.f32.format.order x y == some .gt
def feq (x y : Nat) : Bool := FloatKind.f32.format.order x y == some .eq
def fle (x y : Nat) : Bool := FloatKind.f32.format.order x y == some .lt || FloatKind.f32.format.order x y == some .eq
def fge (x y : Nat) : Bool := FloatKind.f32.format.order x y == some .gt || FloatKind.f32.format.order x y == some .eq

/-- finite -/
def fin (x : Nat) : Bool := feq (fsub x x) 0
def above (x : Nat) : Bool := fin x && fgt x 0
def least (x : Nat) : Bool := fin x && fge x 0

/-- a number, or zero if it is not finite -/
def ifFin (x : Nat) : Nat := if fin x then x else 0
theorem F32.zero : F32 0 0 := F32.lit (by decide +kernel)
theorem F32.ifFin_yes {b : Nat} (h : fin (can .f32 b) = true) : F32 b (ifFin (can .f32 b)) := by unfold ifFin; rw [if_pos h]; rfl
theorem F32.ifFin_no {b : Nat} (h : fin (can .f32 b) = false) : F32 0 (ifFin (can .f32 b)) := by unfold ifFin; rw [if_neg (by rw [h]; decide)]; exact F32.zero
theorem F32.add {a b x y : Nat} {w : World} (ha : F32 a x) (hb : F32 b y) : F32 (mop .add .f32 a b w) (fadd x y) := F32.op _ ha hb
theorem F32.sub {a b x y : Nat} {w : World} (ha : F32 a x) (hb : F32 b y) : F32 (mop .sub .f32 a b w) (fsub x y) := F32.op _ ha hb
theorem F32.mul {a b x y : Nat} {w : World} (ha : F32 a x) (hb : F32 b y) : F32 (mop .mul .f32 a b w) (fmul x y) := F32.op _ ha hb
theorem F32.div {a b x y : Nat} {w : World} (ha : F32 a x) (hb : F32 b y) : F32 (mop .quo .f32 a b w) (fdiv x y) := F32.op _ ha hb

theorem F32.neg {a x : Nat} (ha : F32 a x) : F32 (Op.negFloat .f32 a) (fnegK .f32 x) := by unfold F32 at *; rw [can_neg, ha]
theorem F32.lt {a b x y : Nat} (ha : F32 a x) (hb : F32 b y) : (FloatKind.f32.format.order a b == some .lt) = flt x y := by rw [flt, F32.order ha hb]
theorem F32.gt {a b x y : Nat} (ha : F32 a x) (hb : F32 b y) : (FloatKind.f32.format.order a b == some .gt) = fgt x y := by rw [fgt, F32.order ha hb]
theorem F32.eq {a b x y : Nat} (ha : F32 a x) (hb : F32 b y) : (FloatKind.f32.format.order a b == some .eq) = feq x y := by rw [feq, F32.order ha hb]
theorem F32.le {a b x y : Nat} (ha : F32 a x) (hb : F32 b y) : (FloatKind.f32.format.order a b == some .lt || FloatKind.f32.format.order a b == some .eq) = fle x y := by rw [fle, F32.order ha hb]
theorem F32.ge {a b x y : Nat} (ha : F32 a x) (hb : F32 b y) : (FloatKind.f32.format.order a b == some .gt || FloatKind.f32.format.order a b == some .eq) = fge x y := by rw [fge, F32.order ha hb]
theorem F32.ne {a b x y : Nat} (ha : F32 a x) (hb : F32 b y) : (FloatKind.f32.format.order a b != some .eq) = !feq x y := by rw [feq, F32.order ha hb]; rfl

/-- the first place where p holds -/
def idx {α : Type} (p : α → Bool) (xs : List α) : Int := if xs.any p then (xs.findIdx p : Int) else -1
theorem idx_none {α : Type} {p : α → Bool} {xs : List α} (h : xs.any p = false) : idx p xs = -1 := by simp [idx, h]
theorem idx_some {α : Type} {p : α → Bool} {xs : List α} {k : Nat} (hk : k < xs.length) (hn : (xs.take k).any p = false) (hp : p xs[k] = true) : idx p xs = k := by
  have h1 : xs.any p = true := List.any_eq_true.2 ⟨xs[k], List.getElem_mem hk, hp⟩
  have h2 : xs.findIdx p = k := by
    rw [List.findIdx_eq hk]
    refine ⟨hp, fun j hj => ?_⟩
    have := List.any_eq_false.1 hn xs[j] (by rw [List.mem_take_iff_getElem]; exact ⟨j, by omega, rfl⟩)
    simpa using this
  simp [idx, h1, h2]
theorem any_snoc {α : Type} {p : α → Bool} {xs : List α} {k : Nat} (hk : k < xs.length) (hn : (xs.take k).any p = false) (hp : p xs[k] = false) : (xs.take (k + 1)).any p = false := by
  rw [List.take_succ_eq_append_getElem hk, List.any_append, hn]; simp [hp]
theorem idx_ge {α : Type} (p : α → Bool) (xs : List α) : (decide (0 ≤ idx p xs)) = xs.any p := by
  unfold idx; split <;> simp_all

theorem ret_bool {a b : Bool} (h : a = b) : Ending.returned (.bool a) = .returned (.bool b) := by rw [h]
theorem ret_int {k : IntKind} {a b : Int} (h : a = b) : Ending.returned (.int k a) = .returned (.int k b) := by rw [h]
theorem ret_float {k : FloatKind} {a b : Nat} (h : a = b) : Ending.returned (.float k a) = .returned (.float k b) := by rw [h]

/-- An operation on floats in a walk: its result is a new name of which one fact is known. -/
theorem wp_f {P : Program} {o : Oper} {a : Act} {w : World} {K : Act → World → Prop} {Q : Exit → Act → World → Prop} {op : BinOp} {t yt : TypeId} {x y : Operand} {u v : Nat}
    (ho : o.op = .binOp op t x y yt) (hx : a.eval x = .float .f32 u) (hy : a.eval y = .float .f32 v) (hop : op = .add ∨ op = .sub ∨ op = .mul ∨ op = .quo)
    (h : ∀ r n, F32 r (fop op .f32 (can .f32 u) (can .f32 v)) → K (a.put o.dst (.float .f32 r)) (w.drewN n)) : o.wp P a w K Q := by
  have e : (execOp a.eval o).run P w = .ok (.value (.float .f32 (mop op .f32 u v w))) (w.drewN (mdr op .f32 u v)) := by
    have hr := run_arith (P := P) (w := w) (t := t) hop .f32 u v
    have hg : (eqGuard op t x y (.float .f32 u) (.float .f32 v)).run P w = .ok () w := by
      unfold eqGuard
      rcases hop with rfl | rfl | rfl | rfl <;> rfl
    unfold execOp
    rw [ho]
    simp only [hx, hy]
    simp [hg, hr]
  unfold Oper.wp
  rw [e]
  exact h _ _ (F32.op op (F32.mk u) (F32.mk v))

theorem wpList_f {P : Program} {ops rest : List Oper} {o : Oper} {a : Act} {w : World} {Q : Exit → Act → World → Prop} {op : BinOp} {t yt : TypeId} {x y : Operand} {u v : Nat}
    (hw : Region.wanted o (yielded ops.toArray a.tmps) = true)
    (ho : o.op = .binOp op t x y yt) (hx : a.eval x = .float .f32 u) (hy : a.eval y = .float .f32 v) (hop : op = .add ∨ op = .sub ∨ op = .mul ∨ op = .quo)
    (h : ∀ r n, F32 r (fop op .f32 (can .f32 u) (can .f32 v)) → wpList P ops.toArray Q rest (a.put o.dst (.float .f32 r)) (w.drewN n)) : wpList P ops.toArray Q (o :: rest) a w :=
  wpList_step fun K hK => by
    rw [if_pos hw]
    exact wp_f ho hx hy hop fun r n hr => hK _ _ (h r n hr)

theorem ret_fb {k : FloatKind} {a : Nat} {b c : Bool} (h : b = c) : Ending.returned (.tuple #[.float k a, .bool b]) = .returned (.tuple #[.float k a, .bool c]) := by rw [h]
theorem can_l1 : can .f32 1082130432 = 1082130432 := by decide +kernel
theorem can_l2 : can .f32 1073741824 = 1073741824 := by decide +kernel
theorem can_l3 : can .f32 1056964608 = 1056964608 := by decide +kernel
theorem can_l4 : can .f32 1086324736 = 1086324736 := by decide +kernel
theorem can_l5 : can .f32 0 = 0 := by decide +kernel
theorem can_l6 : can .f32 1065353216 = 1065353216 := by decide +kernel

theorem below_dr {B : Nat} {a w : World} (h : RowKit.Below B a w) (n : Nat) : RowKit.Below B a (w.drewN n) := ⟨h.os, h.tape, h.output, h.size, h.block⟩

theorem order_self {k : FloatKind} {b : Nat} (h : nanB k b = false) : k.format.order b b = some .eq := by
  unfold nanB at h
  unfold Ieee.Format.order
  cases hd : k.format.read b with
  | nan s f => rw [hd] at h; simp [Ieee.Datum.isNaN] at h
  | infinity s => simp [Ieee.Datum.order, Std.ReflCmp.compare_self]
  | number s m e => simp [Ieee.Datum.order, Std.ReflCmp.compare_self]
theorem order_nan {k : FloatKind} {a b : Nat} (h : nanB k a = true) : k.format.order a b = none := by
  obtain ⟨s, f, hd⟩ := isNaN_nan h
  unfold Ieee.Format.order
  rw [hd]; rfl
theorem order_mop {k : FloatKind} {op : BinOp} {a b c : Nat} {w w' : World} : k.format.order (mop op k a b w) c = k.format.order (mop op k a b w') c := by
  rw [← order_can k (mop op k a b w) c, ← order_can k (mop op k a b w') c, can_mop, can_mop]
theorem can_eq_cases {k : FloatKind} {a b : Nat} (h : can k a = can k b) : (nanB k a = true ∧ nanB k b = true) ∨ (nanB k a = false ∧ a = b) := by
  have h1 : nanB k a = nanB k b := by rw [← nanB_can, h, nanB_can]
  cases ha : nanB k a
  · right
    have hb : nanB k b = false := by rw [← h1]; exact ha
    rw [can_of_not ha, can_of_not hb] at h
    exact ⟨rfl, h⟩
  · left; exact ⟨rfl, by rw [← h1]; exact ha⟩

theorem bcell {W w1 : World} (hb : RowKit.Below W.heap.size W w1) : (∀ b o, b < W.heap.size → w1.cell? ⟨b, o, none⟩ = W.cell? ⟨b, o, none⟩) ∧ (∀ b o, b < W.heap.size → w1.frozen? ⟨b, o, none⟩ = W.frozen? ⟨b, o, none⟩) :=
  ⟨fun b o h => hb.cell (p := ⟨b, o, none⟩) h, fun b o h => hb.frozen (p := ⟨b, o, none⟩) h⟩

/-- the product of a list from left to right -/
def prodF (xs : List Nat) : Nat := match xs with | [] => 0 | x :: r => r.foldl fmul x

/-- block b holds these cells, none of them frozen -/
def OwnC (w : World) (b : Nat) (cs : Array Value) (T : TypeId) : Prop := w.heap[b]? = some (.cells cs T (0, 0))
theorem OwnC.lt {w : World} {b : Nat} {cs : Array Value} {T : TypeId} (h : OwnC w b cs T) : b < w.heap.size := by
  unfold OwnC at h
  rcases Nat.lt_or_ge b w.heap.size with h1 | h1
  · exact h1
  · rw [Array.getElem?_eq_none h1] at h; cases h
theorem OwnC.cell {w : World} {b : Nat} {cs : Array Value} {T : TypeId} (h : OwnC w b cs T) (i : Nat) : w.cell? ⟨b, i, none⟩ = cs[i]? := by unfold OwnC at h; simp [World.cell?, h]
theorem OwnC.free {w : World} {b : Nat} {cs : Array Value} {T : TypeId} (h : OwnC w b cs T) (i : Nat) : w.frozen? ⟨b, i, none⟩ = false := by unfold OwnC at h; simp [World.frozen?, h]
theorem OwnC.new {w : World} {b : Nat} {cs : Array Value} {T : TypeId} (hb : b = w.heap.size) : OwnC (w.alloc (.cells cs T)) b cs T := by
  subst hb
  show (w.heap.push _)[w.heap.size]? = _
  simp
theorem OwnC.alloc {w : World} {b : Nat} {cs : Array Value} {T : TypeId} (h : OwnC w b cs T) (o : Obj) : OwnC (w.alloc o) b cs T := by
  have := h.lt
  unfold OwnC
  rw [RowKit.Below.heap_alloc w o b this]; exact h
theorem OwnC.drewN {w : World} {b : Nat} {cs : Array Value} {T : TypeId} (h : OwnC w b cs T) (n : Nat) : OwnC (w.drewN n) b cs T := h
theorem OwnC.below {w w' : World} {b B : Nat} {cs : Array Value} {T : TypeId} (h : OwnC w b cs T) (hb : RowKit.Below B w w') (hl : b < B) : OwnC w' b cs T := (hb.block b hl).trans h
theorem OwnC.other {w : World} {b : Nat} {cs : Array Value} {T : TypeId} (h : OwnC w b cs T) (a : Addr) (v : Value) (hne : b ≠ a.block) : OwnC (w.setCell a v) b cs T := by
  unfold OwnC
  rw [RowKit.Below.heap_setCell w a v b hne]; exact h
theorem OwnC.set {w : World} {b : Nat} {cs : Array Value} {T : TypeId} (h : OwnC w b cs T) (i : Nat) (v : Value) : OwnC (w.setCell ⟨b, i, none⟩ v) b (cs.setIfInBounds i v) T := by
  unfold OwnC at *
  have hl := OwnC.lt h
  simp only [World.setCell, Array.getElem?_modify, if_true]
  rw [h]; rfl
theorem OwnC.congr {w : World} {b : Nat} {cs cs' : Array Value} {T : TypeId} (h : OwnC w b cs T) (e : cs = cs') : OwnC w b cs' T := e ▸ h

/-- the value v is a slice that reads as the numbers xs (their bits) in the world w -/
def SlF (w : World) (v : Value) (xs : List Nat) : Prop :=
  (v = .slice none 0 0 ∧ xs = []) ∨
  ∃ b off cap, v = .slice (some ⟨b, off, none⟩) xs.length cap ∧ xs.length ≤ 9223372036854775807 ∧ ∀ i, i < xs.length → w.cell? ⟨b, off + i, none⟩ = some (.float .f32 (xs.getD i 0))
theorem slF_new (w : World) (xs : List Nat) (T : TypeId) (nb n : Nat) (hb : nb = w.heap.size) (hn : xs.length ≤ 9223372036854775807) (cells : Array Value)
    (hcells : cells = (xs.map (Value.float .f32)).toArray) (hx : n = xs.length) :
    SlF (w.alloc (.cells cells T (0, 0))) (.slice (some ⟨nb, 0, none⟩) n n) xs := by
  subst hcells hx hb
  refine .inr ⟨w.heap.size, 0, xs.length, rfl, hn, fun i hi => ?_⟩
  rw [Nat.zero_add, World.cell?_alloc_new]
  simp [hi]
theorem SlF.drewN {w : World} {v : Value} {xs : List Nat} (h : SlF w v xs) (n : Nat) : SlF (w.drewN n) v xs := h

end Go.Fl

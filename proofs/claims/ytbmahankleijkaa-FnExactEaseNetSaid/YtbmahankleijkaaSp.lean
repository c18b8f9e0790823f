/- Contracts of the small functions on spots. -/
import Derived.Test.YtbmahankleijkaaTo
import Derived.Test.YtbmahankleijkaaSqN
import Derived.Test.YtbmahankleijkaaValS
namespace Go.Fl
/-- the bits stand for the spot p -/
def IsSp (x y z : Nat) (p : Sp) : Prop := (can .f32 x, can .f32 y, can .f32 z) = p
theorem IsSp.of {x y z : Nat} {p : Sp} (h1 : F32 x p.1) (h2 : F32 y p.2.1) (h3 : F32 z p.2.2) : IsSp x y z p := Prod.ext h1 (Prod.ext h2 h3)
theorem IsSp.f1 {x y z : Nat} {p : Sp} (h : IsSp x y z p) : F32 x p.1 := by unfold IsSp at h; subst h; rfl
theorem IsSp.f2 {x y z : Nat} {p : Sp} (h : IsSp x y z p) : F32 y p.2.1 := by unfold IsSp at h; subst h; rfl
theorem IsSp.f3 {x y z : Nat} {p : Sp} (h : IsSp x y z p) : F32 z p.2.2 := by unfold IsSp at h; subst h; rfl
def spAdd (p q : Sp) : Sp := (fadd p.1 q.1, fadd p.2.1 q.2.1, fadd p.2.2 q.2.2)
def spSub (p q : Sp) : Sp := (fsub p.1 q.1, fsub p.2.1 q.2.1, fsub p.2.2 q.2.2)
def spMul (p : Sp) (t : Nat) : Sp := (fmul p.1 t, fmul p.2.1 t, fmul p.2.2 t)
def spDiv (p : Sp) (t : Nat) : Sp := (fdiv p.1 t, fdiv p.2.1 t, fdiv p.2.2 t)
def spDot (p q : Sp) : Nat := fadd (fadd (fmul p.1 q.1) (fmul p.2.1 q.2.1)) (fmul p.2.2 q.2.2)
def spCross (p q : Sp) : Sp := (fsub (fmul p.2.1 q.2.2) (fmul p.2.2 q.2.1), fsub (fmul p.2.2 q.1) (fmul p.1 q.2.2), fsub (fmul p.1 q.2.1) (fmul p.2.1 q.1))
end Go.Fl
namespace Go.Proofs.Ytbmahankleijkaa
open Go.RowKit Go.Fl

set_option maxHeartbeats 1000000 in
theorem implAdd (x y z x' y' z' : Nat) (p q : Sp) (hp : IsSp x y z p) (hq : IsSp x' y' z' q) (w : World) :
    Calls Try.prog 91 #[spV x y z, spV x' y' z'] w fun e w' => (∃ a b c, e = .returned (spV a b c) ∧ IsSp a b c (spAdd p q)) ∧ Below w.heap.size w w' := by
  unfold IsSp at *
  subst hp hq
  unfold spV
  go_enter Try.func91, Try.ntmps91
  go_wp2_with (refine wpList_f rfl rfl rfl rfl (by decide) ?_; intro _ _ _; simp only [Act.put, List.setIfInBounds_toArray, List.set_cons_succ, List.set_cons_zero])
  refine bodyPost_ret (by simp [results, Try.results91, go_sem]; exact ⟨rfl, rfl, rfl⟩) rfl ⟨⟨_, _, _, rfl, ?_⟩, by (repeat (first | exact Below.refl _ _ | assumption | refine below_dr ?_ _ | refine Below.alloc ?_ (by first | omega | (simp; done) | (simp; omega)) _ | refine Below.setCell ?_ (by first | omega | (simp; done) | (simp; omega)) _ | refine Below.trans ?_ (Below.mono (by assumption) (by first | omega | (simp; done) | (simp; omega)))))⟩
  simp only [F32] at *
  simp only [spAdd, fadd, fsub, fmul, *]

set_option maxHeartbeats 1000000 in
theorem l04Add (x y z x' y' z' : Nat) (p q : Sp) (hp : IsSp x y z p) (hq : IsSp x' y' z' q) (w : World) :
    Calls Try.prog 83 #[spV x y z, spV x' y' z'] w fun e w' => (∃ a b c, e = .returned (spV a b c) ∧ IsSp a b c (spAdd p q)) ∧ Below w.heap.size w w' := by
  unfold IsSp at *
  subst hp hq
  unfold spV
  go_enter Try.func83, Try.ntmps83
  go_wp2_with (refine wpList_f rfl rfl rfl rfl (by decide) ?_; intro _ _ _; simp only [Act.put, List.setIfInBounds_toArray, List.set_cons_succ, List.set_cons_zero])
  refine bodyPost_ret (by simp [results, Try.results83, go_sem]; exact ⟨rfl, rfl, rfl⟩) rfl ⟨⟨_, _, _, rfl, ?_⟩, by (repeat (first | exact Below.refl _ _ | assumption | refine below_dr ?_ _ | refine Below.alloc ?_ (by first | omega | (simp; done) | (simp; omega)) _ | refine Below.setCell ?_ (by first | omega | (simp; done) | (simp; omega)) _ | refine Below.trans ?_ (Below.mono (by assumption) (by first | omega | (simp; done) | (simp; omega)))))⟩
  simp only [F32] at *
  simp only [spAdd, fadd, fsub, fmul, *]

set_option maxHeartbeats 1000000 in
theorem implLess (x y z x' y' z' : Nat) (p q : Sp) (hp : IsSp x y z p) (hq : IsSp x' y' z' q) (w : World) :
    Calls Try.prog 79 #[spV x y z, spV x' y' z'] w fun e w' => (∃ a b c, e = .returned (spV a b c) ∧ IsSp a b c (spSub p q)) ∧ Below w.heap.size w w' := by
  unfold IsSp at *
  subst hp hq
  unfold spV
  go_enter Try.func79, Try.ntmps79
  go_wp2_with (refine wpList_f rfl rfl rfl rfl (by decide) ?_; intro _ _ _; simp only [Act.put, List.setIfInBounds_toArray, List.set_cons_succ, List.set_cons_zero])
  refine bodyPost_ret (by simp [results, Try.results79, go_sem]; exact ⟨rfl, rfl, rfl⟩) rfl ⟨⟨_, _, _, rfl, ?_⟩, by (repeat (first | exact Below.refl _ _ | assumption | refine below_dr ?_ _ | refine Below.alloc ?_ (by first | omega | (simp; done) | (simp; omega)) _ | refine Below.setCell ?_ (by first | omega | (simp; done) | (simp; omega)) _ | refine Below.trans ?_ (Below.mono (by assumption) (by first | omega | (simp; done) | (simp; omega)))))⟩
  simp only [F32] at *
  simp only [spSub, fadd, fsub, fmul, *]

set_option maxHeartbeats 1000000 in
theorem l04Less (x y z x' y' z' : Nat) (p q : Sp) (hp : IsSp x y z p) (hq : IsSp x' y' z' q) (w : World) :
    Calls Try.prog 76 #[spV x y z, spV x' y' z'] w fun e w' => (∃ a b c, e = .returned (spV a b c) ∧ IsSp a b c (spSub p q)) ∧ Below w.heap.size w w' := by
  unfold IsSp at *
  subst hp hq
  unfold spV
  go_enter Try.func76, Try.ntmps76
  go_wp2_with (refine wpList_f rfl rfl rfl rfl (by decide) ?_; intro _ _ _; simp only [Act.put, List.setIfInBounds_toArray, List.set_cons_succ, List.set_cons_zero])
  refine bodyPost_ret (by simp [results, Try.results76, go_sem]; exact ⟨rfl, rfl, rfl⟩) rfl ⟨⟨_, _, _, rfl, ?_⟩, by (repeat (first | exact Below.refl _ _ | assumption | refine below_dr ?_ _ | refine Below.alloc ?_ (by first | omega | (simp; done) | (simp; omega)) _ | refine Below.setCell ?_ (by first | omega | (simp; done) | (simp; omega)) _ | refine Below.trans ?_ (Below.mono (by assumption) (by first | omega | (simp; done) | (simp; omega)))))⟩
  simp only [F32] at *
  simp only [spSub, fadd, fsub, fmul, *]

set_option maxHeartbeats 1000000 in
theorem implTimes (x y z b t : Nat) (p : Sp) (hp : IsSp x y z p) (hb : F32 b t) (w : World) :
    Calls Try.prog 93 #[spV x y z, .float .f32 b] w fun e w' => (∃ a b c, e = .returned (spV a b c) ∧ IsSp a b c (spMul p t)) ∧ Below w.heap.size w w' := by
  unfold IsSp F32 at *
  subst hp hb
  unfold spV
  go_enter Try.func93, Try.ntmps93
  go_wp2_with (refine wpList_f rfl rfl rfl rfl (by decide) ?_; intro _ _ _; simp only [Act.put, List.setIfInBounds_toArray, List.set_cons_succ, List.set_cons_zero])
  refine bodyPost_ret (by simp [results, Try.results93, go_sem]; exact ⟨rfl, rfl, rfl⟩) rfl ⟨⟨_, _, _, rfl, ?_⟩, by (repeat (first | exact Below.refl _ _ | assumption | refine below_dr ?_ _ | refine Below.alloc ?_ (by first | omega | (simp; done) | (simp; omega)) _ | refine Below.setCell ?_ (by first | omega | (simp; done) | (simp; omega)) _ | refine Below.trans ?_ (Below.mono (by assumption) (by first | omega | (simp; done) | (simp; omega)))))⟩
  simp only [F32] at *
  simp only [spMul, fmul, fdiv, *]

set_option maxHeartbeats 1000000 in
theorem l04Times (x y z b t : Nat) (p : Sp) (hp : IsSp x y z p) (hb : F32 b t) (w : World) :
    Calls Try.prog 85 #[spV x y z, .float .f32 b] w fun e w' => (∃ a b c, e = .returned (spV a b c) ∧ IsSp a b c (spMul p t)) ∧ Below w.heap.size w w' := by
  unfold IsSp F32 at *
  subst hp hb
  unfold spV
  go_enter Try.func85, Try.ntmps85
  go_wp2_with (refine wpList_f rfl rfl rfl rfl (by decide) ?_; intro _ _ _; simp only [Act.put, List.setIfInBounds_toArray, List.set_cons_succ, List.set_cons_zero])
  refine bodyPost_ret (by simp [results, Try.results85, go_sem]; exact ⟨rfl, rfl, rfl⟩) rfl ⟨⟨_, _, _, rfl, ?_⟩, by (repeat (first | exact Below.refl _ _ | assumption | refine below_dr ?_ _ | refine Below.alloc ?_ (by first | omega | (simp; done) | (simp; omega)) _ | refine Below.setCell ?_ (by first | omega | (simp; done) | (simp; omega)) _ | refine Below.trans ?_ (Below.mono (by assumption) (by first | omega | (simp; done) | (simp; omega)))))⟩
  simp only [F32] at *
  simp only [spMul, fmul, fdiv, *]

set_option maxHeartbeats 1000000 in
theorem implBy (x y z b t : Nat) (p : Sp) (hp : IsSp x y z p) (hb : F32 b t) (w : World) :
    Calls Try.prog 122 #[spV x y z, .float .f32 b] w fun e w' => (∃ a b c, e = .returned (spV a b c) ∧ IsSp a b c (spDiv p t)) ∧ Below w.heap.size w w' := by
  unfold IsSp F32 at *
  subst hp hb
  unfold spV
  go_enter Try.func122, Try.ntmps122
  go_wp2_with (refine wpList_f rfl rfl rfl rfl (by decide) ?_; intro _ _ _; simp only [Act.put, List.setIfInBounds_toArray, List.set_cons_succ, List.set_cons_zero])
  refine bodyPost_ret (by simp [results, Try.results122, go_sem]; exact ⟨rfl, rfl, rfl⟩) rfl ⟨⟨_, _, _, rfl, ?_⟩, by (repeat (first | exact Below.refl _ _ | assumption | refine below_dr ?_ _ | refine Below.alloc ?_ (by first | omega | (simp; done) | (simp; omega)) _ | refine Below.setCell ?_ (by first | omega | (simp; done) | (simp; omega)) _ | refine Below.trans ?_ (Below.mono (by assumption) (by first | omega | (simp; done) | (simp; omega)))))⟩
  simp only [F32] at *
  simp only [spDiv, fmul, fdiv, *]

set_option maxHeartbeats 1000000 in
theorem l06Over (x y z b t : Nat) (p : Sp) (hp : IsSp x y z p) (hb : F32 b t) (w : World) :
    Calls Try.prog 84 #[spV x y z, .float .f32 b] w fun e w' => (∃ a b c, e = .returned (spV a b c) ∧ IsSp a b c (spDiv p t)) ∧ Below w.heap.size w w' := by
  unfold IsSp F32 at *
  subst hp hb
  unfold spV
  go_enter Try.func84, Try.ntmps84
  go_wp2_with (refine wpList_f rfl rfl rfl rfl (by decide) ?_; intro _ _ _; simp only [Act.put, List.setIfInBounds_toArray, List.set_cons_succ, List.set_cons_zero])
  refine bodyPost_ret (by simp [results, Try.results84, go_sem]; exact ⟨rfl, rfl, rfl⟩) rfl ⟨⟨_, _, _, rfl, ?_⟩, by (repeat (first | exact Below.refl _ _ | assumption | refine below_dr ?_ _ | refine Below.alloc ?_ (by first | omega | (simp; done) | (simp; omega)) _ | refine Below.setCell ?_ (by first | omega | (simp; done) | (simp; omega)) _ | refine Below.trans ?_ (Below.mono (by assumption) (by first | omega | (simp; done) | (simp; omega)))))⟩
  simp only [F32] at *
  simp only [spDiv, fmul, fdiv, *]

set_option maxHeartbeats 1000000 in
theorem implCross (x y z x' y' z' : Nat) (p q : Sp) (hp : IsSp x y z p) (hq : IsSp x' y' z' q) (w : World) :
    Calls Try.prog 72 #[spV x y z, spV x' y' z'] w fun e w' => (∃ a b c, e = .returned (spV a b c) ∧ IsSp a b c (spCross p q)) ∧ Below w.heap.size w w' := by
  unfold IsSp at *
  subst hp hq
  unfold spV
  go_enter Try.func72, Try.ntmps72
  go_wp2_with (refine wpList_f rfl rfl rfl rfl (by decide) ?_; intro _ _ _; simp only [Act.put, List.setIfInBounds_toArray, List.set_cons_succ, List.set_cons_zero])
  refine bodyPost_ret (by simp [results, Try.results72, go_sem]; exact ⟨rfl, rfl, rfl⟩) rfl ⟨⟨_, _, _, rfl, ?_⟩, by (repeat (first | exact Below.refl _ _ | assumption | refine below_dr ?_ _ | refine Below.alloc ?_ (by first | omega | (simp; done) | (simp; omega)) _ | refine Below.setCell ?_ (by first | omega | (simp; done) | (simp; omega)) _ | refine Below.trans ?_ (Below.mono (by assumption) (by first | omega | (simp; done) | (simp; omega)))))⟩
  simp only [F32] at *
  simp only [spCross, fadd, fsub, fmul, *]

set_option maxHeartbeats 1000000 in
theorem l04Cross (x y z x' y' z' : Nat) (p q : Sp) (hp : IsSp x y z p) (hq : IsSp x' y' z' q) (w : World) :
    Calls Try.prog 116 #[spV x y z, spV x' y' z'] w fun e w' => (∃ a b c, e = .returned (spV a b c) ∧ IsSp a b c (spCross p q)) ∧ Below w.heap.size w w' := by
  unfold IsSp at *
  subst hp hq
  unfold spV
  go_enter Try.func116, Try.ntmps116
  go_wp2_with (refine wpList_f rfl rfl rfl rfl (by decide) ?_; intro _ _ _; simp only [Act.put, List.setIfInBounds_toArray, List.set_cons_succ, List.set_cons_zero])
  refine bodyPost_ret (by simp [results, Try.results116, go_sem]; exact ⟨rfl, rfl, rfl⟩) rfl ⟨⟨_, _, _, rfl, ?_⟩, by (repeat (first | exact Below.refl _ _ | assumption | refine below_dr ?_ _ | refine Below.alloc ?_ (by first | omega | (simp; done) | (simp; omega)) _ | refine Below.setCell ?_ (by first | omega | (simp; done) | (simp; omega)) _ | refine Below.trans ?_ (Below.mono (by assumption) (by first | omega | (simp; done) | (simp; omega)))))⟩
  simp only [F32] at *
  simp only [spCross, fadd, fsub, fmul, *]

set_option maxHeartbeats 1000000 in
theorem implDot (x y z x' y' z' : Nat) (p q : Sp) (hp : IsSp x y z p) (hq : IsSp x' y' z' q) (w : World) :
    Calls Try.prog 74 #[spV x y z, spV x' y' z'] w fun e w' => (∃ r, e = .returned (.float .f32 r) ∧ F32 r (spDot p q)) ∧ Below w.heap.size w w' := by
  unfold IsSp at *
  subst hp hq
  unfold spV
  go_enter Try.func74, Try.ntmps74
  go_wp2_with (refine wpList_f rfl rfl rfl rfl (by decide) ?_; intro _ _ _; simp only [Act.put, List.setIfInBounds_toArray, List.set_cons_succ, List.set_cons_zero])
  go_ret
  refine ⟨⟨_, rfl, ?_⟩, by (repeat (first | exact Below.refl _ _ | assumption | refine below_dr ?_ _ | refine Below.alloc ?_ (by first | omega | (simp; done) | (simp; omega)) _ | refine Below.setCell ?_ (by first | omega | (simp; done) | (simp; omega)) _ | refine Below.trans ?_ (Below.mono (by assumption) (by first | omega | (simp; done) | (simp; omega)))))⟩
  simp only [F32] at *
  simp only [spDot, fadd, fmul, *]

set_option maxHeartbeats 1000000 in
theorem l04Dot (x y z x' y' z' : Nat) (p q : Sp) (hp : IsSp x y z p) (hq : IsSp x' y' z' q) (w : World) :
    Calls Try.prog 68 #[spV x y z, spV x' y' z'] w fun e w' => (∃ r, e = .returned (.float .f32 r) ∧ F32 r (spDot p q)) ∧ Below w.heap.size w w' := by
  unfold IsSp at *
  subst hp hq
  unfold spV
  go_enter Try.func68, Try.ntmps68
  go_wp2_with (refine wpList_f rfl rfl rfl rfl (by decide) ?_; intro _ _ _; simp only [Act.put, List.setIfInBounds_toArray, List.set_cons_succ, List.set_cons_zero])
  go_ret
  refine ⟨⟨_, rfl, ?_⟩, by (repeat (first | exact Below.refl _ _ | assumption | refine below_dr ?_ _ | refine Below.alloc ?_ (by first | omega | (simp; done) | (simp; omega)) _ | refine Below.setCell ?_ (by first | omega | (simp; done) | (simp; omega)) _ | refine Below.trans ?_ (Below.mono (by assumption) (by first | omega | (simp; done) | (simp; omega)))))⟩
  simp only [F32] at *
  simp only [spDot, fadd, fmul, *]
end Go.Proofs.Ytbmahankleijkaa

/- Contracts: the cross of spots, and the closure that sums a net's volume. -/
import Derived.Test.YtbmahankleijkaaTri
import Derived.Test.YtbmahankleijkaaVs
namespace Go.Proofs.Ytbmahankleijkaa
open Go.RowKit Go.Fl

theorem spotQ (x y z : Nat) (p : Sp) (hp : IsSp x y z p) (w : World) : Calls Try.prog 112 #[.agg #[.float .f32 x, .float .f32 y, .float .f32 z]] w fun e w' => e = .returned (.bool (finSp p)) ∧ Below w.heap.size w w' := by
  unfold IsSp at hp; subst hp; exact l04Spot x y z w
theorem isSpotQ (x y z : Nat) (p : Sp) (hp : IsSp x y z p) (w : World) : Calls Try.prog 73 #[.agg #[.float .f32 x, .float .f32 y, .float .f32 z]] w fun e w' => e = .returned (.bool (finSp p)) ∧ Below w.heap.size w w' := by
  unfold IsSp at hp; subst hp; exact isSpot x y z w
theorem crossS (x y z x' y' z' : Nat) (p q : Sp) (hp : IsSp x y z p) (hq : IsSp x' y' z' q) (w : World) :
    Calls Try.prog 116 #[.agg #[.float .f32 x, .float .f32 y, .float .f32 z], .agg #[.float .f32 x', .float .f32 y', .float .f32 z']] w fun e w' => (∃ a b c, e = .returned (.agg #[.float .f32 a, .float .f32 b, .float .f32 c]) ∧ IsSp a b c (spCross p q)) ∧ Below w.heap.size w w' := l04Cross x y z x' y' z' p q hp hq w
theorem crossB (x y z x' y' z' : Nat) (p q : Sp) (hp : IsSp x y z p) (hq : IsSp x' y' z' q) (w : World) :
    Calls Try.prog 72 #[.agg #[.float .f32 x, .float .f32 y, .float .f32 z], .agg #[.float .f32 x', .float .f32 y', .float .f32 z']] w fun e w' => (∃ a b c, e = .returned (.agg #[.float .f32 a, .float .f32 b, .float .f32 c]) ∧ IsSp a b c (spCross p q)) ∧ Below w.heap.size w w' := implCross x y z x' y' z' p q hp hq w
theorem lessS (x y z x' y' z' : Nat) (p q : Sp) (hp : IsSp x y z p) (hq : IsSp x' y' z' q) (w : World) :
    Calls Try.prog 76 #[.agg #[.float .f32 x, .float .f32 y, .float .f32 z], .agg #[.float .f32 x', .float .f32 y', .float .f32 z']] w fun e w' => (∃ a b c, e = .returned (.agg #[.float .f32 a, .float .f32 b, .float .f32 c]) ∧ IsSp a b c (spSub p q)) ∧ Below w.heap.size w w' := l04Less x y z x' y' z' p q hp hq w
theorem lessB (x y z x' y' z' : Nat) (p q : Sp) (hp : IsSp x y z p) (hq : IsSp x' y' z' q) (w : World) :
    Calls Try.prog 79 #[.agg #[.float .f32 x, .float .f32 y, .float .f32 z], .agg #[.float .f32 x', .float .f32 y', .float .f32 z']] w fun e w' => (∃ a b c, e = .returned (.agg #[.float .f32 a, .float .f32 b, .float .f32 c]) ∧ IsSp a b c (spSub p q)) ∧ Below w.heap.size w w' := implLess x y z x' y' z' p q hp hq w
theorem dotS (x y z x' y' z' : Nat) (p q : Sp) (hp : IsSp x y z p) (hq : IsSp x' y' z' q) (w : World) :
    Calls Try.prog 68 #[.agg #[.float .f32 x, .float .f32 y, .float .f32 z], .agg #[.float .f32 x', .float .f32 y', .float .f32 z']] w fun e w' => (∃ r, e = .returned (.float .f32 r) ∧ F32 r (spDot p q)) ∧ Below w.heap.size w w' := l04Dot x y z x' y' z' p q hp hq w
theorem dotB (x y z x' y' z' : Nat) (p q : Sp) (hp : IsSp x y z p) (hq : IsSp x' y' z' q) (w : World) :
    Calls Try.prog 74 #[.agg #[.float .f32 x, .float .f32 y, .float .f32 z], .agg #[.float .f32 x', .float .f32 y', .float .f32 z']] w fun e w' => (∃ r, e = .returned (.float .f32 r) ∧ F32 r (spDot p q)) ∧ Below w.heap.size w w' := implDot x y z x' y' z' p q hp hq w

set_option maxHeartbeats 1000000 in
set_option maxRecDepth 100000 in
theorem l04Given (x y z : Nat) (p : Sp) (hp : IsSp x y z p) (w : World) :
    Calls Try.prog 115 #[.agg #[.float .f32 x, .float .f32 y, .float .f32 z]] w fun e w' => (∃ a b c, e = .returned (.tuple #[.agg #[.float .f32 a, .float .f32 b, .float .f32 c], .bool (finSp p)]) ∧ (finSp p = true → IsSp a b c p)) ∧ Below w.heap.size w w' := by
  have HP := Lib.hid hp
  clear hp
  have HX := Lib.hid ((OwnC.new (w := w) (cs := #[.float .f32 x, .float .f32 y, .float .f32 z]) (T := 79) rfl).alloc (.cells #[.float .f32 0, .float .f32 0, .float .f32 0] 79))
  have HZ : Hid (OwnC ((w.alloc (.cells #[.float .f32 x, .float .f32 y, .float .f32 z] 79)).alloc (.cells #[.float .f32 0, .float .f32 0, .float .f32 0] 79)) (w.heap.size + 1) #[.float .f32 0, .float .f32 0, .float .f32 0] 79) := OwnC.new (by simp)
  cases hf : finSp p
  all_goals
    have HF := Lib.hid hf
    clear hf
    go_enter Try.func115, Try.ntmps115
    go_wp2_with (go_at_call 112; refine (spotQ x y z p HP.out _).mono ?_; rintro e w3 ⟨rfl, hb3⟩; rw [HF.out]; have HX3 := Lib.hid (HX.out.below hb3 (by first | omega | (simp; done) | (simp; omega))); have HZ3 := Lib.hid (HZ.out.below hb3 (by first | omega | (simp; done) | (simp; omega))); have c0 := HX3.out.cell 0; have c1 := HX3.out.cell 1; have c2 := HX3.out.cell 2; have z0 := HZ3.out.cell 0; have z1 := HZ3.out.cell 1; have z2 := HZ3.out.cell 2; simp at c0 c1 c2 z0 z1 z2; have g0 := HZ3.out.free 0; have g1 := HZ3.out.free 1; have g2 := HZ3.out.free 2; have HB3 : Hid (Below w.heap.size w w3) := Below.trans (by (repeat (first | exact Below.refl _ _ | assumption | refine below_dr ?_ _ | refine Below.alloc ?_ (by first | omega | (simp; done) | (simp; omega)) _ | refine Below.setCell ?_ (by first | omega | (simp; done) | (simp; omega)) _ | refine Below.trans ?_ (Below.mono (by assumption) (by first | omega | (simp; done) | (simp; omega)))))) (hb3.mono (by simp; omega)); clear hb3)
  · have R := ((HZ3.out.set 0 (.float .f32 0)).set 1 (.float .f32 0)).set 2 (.float .f32 0)
    have r0 := R.cell 0
    have r1 := R.cell 1
    have r2 := R.cell 2
    simp at r0 r1 r2
    refine bodyPost_ret (v := .tuple #[.agg #[.float .f32 0, .float .f32 0, .float .f32 0], .bool false]) (by simp [results, Try.results115, go_sem, *]) rfl ⟨⟨0, 0, 0, rfl, fun h => by cases h⟩, ?_⟩
    exact ((HB3.out.setCell (by simp) _).setCell (by simp) _).setCell (by simp) _
  · have R := ((HZ3.out.set 0 (.float .f32 x)).set 1 (.float .f32 y)).set 2 (.float .f32 z)
    have r0 := R.cell 0
    have r1 := R.cell 1
    have r2 := R.cell 2
    simp at r0 r1 r2
    refine bodyPost_ret (v := .tuple #[.agg #[.float .f32 x, .float .f32 y, .float .f32 z], .bool true]) (by simp [results, Try.results115, go_sem, *]) rfl ⟨⟨x, y, z, rfl, fun _ => HP.out⟩, ?_⟩
    exact ((HB3.out.setCell (by simp) _).setCell (by simp) _).setCell (by simp) _

/-- is the cross told? -/
def crOk (p q : Sp) : Bool := finSp p && finSp q && finSp (spCross p q)
set_option maxHeartbeats 2000000 in
set_option maxRecDepth 100000 in
theorem crossSpots (x y z x' y' z' : Nat) (p q : Sp) (hp : IsSp x y z p) (hq : IsSp x' y' z' q) (w : World) :
    Calls Try.prog 67 #[.agg #[.float .f32 x, .float .f32 y, .float .f32 z], .agg #[.float .f32 x', .float .f32 y', .float .f32 z']] w fun e w' => (∃ a b c, e = .returned (.tuple #[.agg #[.float .f32 a, .float .f32 b, .float .f32 c], .bool (crOk p q)]) ∧ (crOk p q = true → IsSp a b c (spCross p q))) ∧ Below w.heap.size w w' := by
  have HP := Lib.hid hp
  have HQ := Lib.hid hq
  clear hp hq
  have HX := Lib.hid (((OwnC.new (w := w) (cs := #[.float .f32 x, .float .f32 y, .float .f32 z]) (T := 79) rfl).alloc (.cells #[.float .f32 x', .float .f32 y', .float .f32 z'] 79)).alloc (.cells #[.float .f32 0, .float .f32 0, .float .f32 0] 79))
  have HY : Hid (OwnC (((w.alloc (.cells #[.float .f32 x, .float .f32 y, .float .f32 z] 79)).alloc (.cells #[.float .f32 x', .float .f32 y', .float .f32 z'] 79)).alloc (.cells #[.float .f32 0, .float .f32 0, .float .f32 0] 79)) (w.heap.size + 1) #[.float .f32 x', .float .f32 y', .float .f32 z'] 79) := (OwnC.new (by simp)).alloc _
  have HZ : Hid (OwnC (((w.alloc (.cells #[.float .f32 x, .float .f32 y, .float .f32 z] 79)).alloc (.cells #[.float .f32 x', .float .f32 y', .float .f32 z'] 79)).alloc (.cells #[.float .f32 0, .float .f32 0, .float .f32 0] 79)) (w.heap.size + 1 + 1) #[.float .f32 0, .float .f32 0, .float .f32 0] 79) := OwnC.new (by simp)
  have HB : Hid (Below w.heap.size w (((w.alloc (.cells #[.float .f32 x, .float .f32 y, .float .f32 z] 79)).alloc (.cells #[.float .f32 x', .float .f32 y', .float .f32 z'] 79)).alloc (.cells #[.float .f32 0, .float .f32 0, .float .f32 0] 79))) := by
    show Below _ _ _
    (repeat (first | exact Below.refl _ _ | assumption | refine below_dr ?_ _ | refine Below.alloc ?_ (by first | omega | (simp; done) | (simp; omega)) _ | refine Below.setCell ?_ (by first | omega | (simp; done) | (simp; omega)) _ | refine Below.trans ?_ (Below.mono (by assumption) (by first | omega | (simp; done) | (simp; omega)))))
  have hfin : ∀ w3 r s t, Hid (OwnC w3 (w.heap.size + 1 + 1) #[.float .f32 0, .float .f32 0, .float .f32 0] 79) → OwnC (((w3.setCell ⟨w.heap.size + 1 + 1, 0, none⟩ (.float .f32 r)).setCell ⟨w.heap.size + 1 + 1, 1, none⟩ (.float .f32 s)).setCell ⟨w.heap.size + 1 + 1, 2, none⟩ (.float .f32 t)) (w.heap.size + 1 + 1) #[.float .f32 r, .float .f32 s, .float .f32 t] 79 :=
    fun w3 r s t h => (((h.out.set 0 _).set 1 _).set 2 _).congr rfl
  have HFIN := Lib.hid hfin
  clear hfin
  cases h1 : finSp p
  · have HF1 := Lib.hid h1
    have HE : Hid (crOk p q = false) := Lib.hid (by simp [crOk, h1])
    clear h1
    go_enter Try.func67, Try.ntmps67
    go_wp2_with (go_at_call 112; with_reducible refine (spotQ x y z p HP.out _).mono ?_; rintro e w3 ⟨rfl, hb3⟩; rw [HF1.out]; have HZ3 := Lib.hid (HZ.out.below hb3 (by first | omega | (simp; done) | (simp; omega))); have z0 := HZ3.out.cell 0; have z1 := HZ3.out.cell 1; have z2 := HZ3.out.cell 2; simp at z0 z1 z2; have g0 := HZ3.out.free 0; have g1 := HZ3.out.free 1; have g2 := HZ3.out.free 2; have HB3 := Lib.hid (HB.out.trans (hb3.mono (by simp; omega))); clear hb3)
    have R := HFIN.out w3 0 0 0 HZ3
    have r0 := R.cell 0
    have r1 := R.cell 1
    have r2 := R.cell 2
    simp at r0 r1 r2
    rw [HE.out]
    refine bodyPost_ret (v := .tuple #[.agg #[.float .f32 0, .float .f32 0, .float .f32 0], .bool false]) (by simp [results, Try.results67, go_sem, *]) rfl ⟨⟨0, 0, 0, rfl, fun h => by cases h⟩, ?_⟩
    exact ((HB3.out.setCell (by simp; omega) _).setCell (by simp; omega) _).setCell (by simp; omega) _
  have HF1 := Lib.hid h1
  cases h2 : finSp q
  · have HF2 := Lib.hid h2
    have HE : Hid (crOk p q = false) := Lib.hid (by simp [crOk, h2])
    clear h1 h2
    go_enter Try.func67, Try.ntmps67
    go_wp2_with (first | (go_at_call 112; with_reducible refine (spotQ x y z p HP.out _).mono ?_; rintro e w3 ⟨rfl, hb3⟩; rw [HF1.out]; have HZ3 := Lib.hid (HZ.out.below hb3 (by first | omega | (simp; done) | (simp; omega))); have HY3 := Lib.hid (HY.out.below hb3 (by first | omega | (simp; done) | (simp; omega))); have y0 := HY3.out.cell 0; have y1 := HY3.out.cell 1; have y2 := HY3.out.cell 2; simp at y0 y1 y2; have zz3 := HZ3.out.lt; have HB3 := Lib.hid (HB.out.trans (hb3.mono (by simp; omega))); clear hb3) | (go_at_call 112; with_reducible refine (spotQ x' y' z' q HQ.out _).mono ?_; rintro e w4 ⟨rfl, hb4⟩; rw [HF2.out]; have HZ4 := Lib.hid (HZ3.out.below hb4 zz3); have z0 := HZ4.out.cell 0; have z1 := HZ4.out.cell 1; have z2 := HZ4.out.cell 2; simp at z0 z1 z2; have g0 := HZ4.out.free 0; have g1 := HZ4.out.free 1; have g2 := HZ4.out.free 2; have HB4 := Lib.hid (HB3.out.trans (hb4.mono HB3.out.size)); clear hb4))
    have R := HFIN.out w4 0 0 0 HZ4
    have r0 := R.cell 0
    have r1 := R.cell 1
    have r2 := R.cell 2
    simp at r0 r1 r2
    rw [HE.out]
    refine bodyPost_ret (v := .tuple #[.agg #[.float .f32 0, .float .f32 0, .float .f32 0], .bool false]) (by simp [results, Try.results67, go_sem, *]) rfl ⟨⟨0, 0, 0, rfl, fun h => by cases h⟩, ?_⟩
    exact ((HB4.out.setCell (by simp; omega) _).setCell (by simp; omega) _).setCell (by simp; omega) _
  have HF2 := Lib.hid h2
  have HE : Hid (crOk p q = finSp (spCross p q)) := Lib.hid (by simp [crOk, h1, h2])
  clear h1 h2
  go_enter Try.func67, Try.ntmps67
  go_wp2_with (first
    | (go_at_call 112; with_reducible refine (spotQ x y z p HP.out _).mono ?_; rintro e w3 ⟨rfl, hb3⟩; rw [HF1.out]; have HZ3 := Lib.hid (HZ.out.below hb3 (by first | omega | (simp; done) | (simp; omega))); have HY3 := Lib.hid (HY.out.below hb3 (by first | omega | (simp; done) | (simp; omega))); have HX3 := Lib.hid (HX.out.below hb3 (by first | omega | (simp; done) | (simp; omega))); have y0 := HY3.out.cell 0; have y1 := HY3.out.cell 1; have y2 := HY3.out.cell 2; simp at y0 y1 y2; have zz3 := HZ3.out.lt; have HB3 := Lib.hid (HB.out.trans (hb3.mono (by simp; omega))); clear hb3)
    | (go_at_call 112; with_reducible refine (spotQ x' y' z' q HQ.out _).mono ?_; rintro e w4 ⟨rfl, hb4⟩; rw [HF2.out]; have HZ4 := Lib.hid (HZ3.out.below hb4 zz3); have HY4 := HY3.out.below hb4 (by omega); have HX4 := HX3.out.below hb4 (by omega); clear y0 y1 y2; have y0 := HY4.cell 0; have y1 := HY4.cell 1; have y2 := HY4.cell 2; have cx0 := HX4.cell 0; have cx1 := HX4.cell 1; have cx2 := HX4.cell 2; simp at y0 y1 y2 cx0 cx1 cx2; have zz4 := HZ4.out.lt; have HB4 := Lib.hid (HB3.out.trans (hb4.mono HB3.out.size)); clear hb4 HY4 HX4)
    | (go_at_call 116; refine (crossS x y z x' y' z' p q HP.out HQ.out _).mono ?_; rintro e w5 ⟨⟨a, b, c, rfl, hab⟩, hb5⟩; have HAB := Lib.hid hab; have HZ5 := Lib.hid (HZ4.out.below hb5 zz4); have zz5 := HZ5.out.lt; have HB5 := Lib.hid (HB4.out.trans (hb5.mono HB4.out.size)); clear hb5 hab)
    | (go_at_call 115; refine (l04Given a b c _ HAB.out _).mono ?_; rintro e w6 ⟨⟨a', b', c', rfl, hab⟩, hb6⟩; have HAC := Lib.hid hab; have HZ6 := Lib.hid (HZ5.out.below hb6 zz5); have z0 := HZ6.out.cell 0; have z1 := HZ6.out.cell 1; have z2 := HZ6.out.cell 2; simp at z0 z1 z2; have g0 := HZ6.out.free 0; have g1 := HZ6.out.free 1; have g2 := HZ6.out.free 2; have HB6 := Lib.hid (HB5.out.trans (hb6.mono HB5.out.size)); clear hb6 hab))
  have R := HFIN.out w6 a' b' c' HZ6
  have r0 := R.cell 0
  have r1 := R.cell 1
  have r2 := R.cell 2
  simp at r0 r1 r2
  rw [HE.out]
  refine bodyPost_ret (v := .tuple #[.agg #[.float .f32 a', .float .f32 b', .float .f32 c'], .bool (finSp (spCross p q))]) (by simp [results, Try.results67, go_sem, *]) rfl ⟨⟨a', b', c', rfl, HAC.out⟩, ?_⟩
  exact ((HB6.out.setCell (by simp; omega) _).setCell (by simp; omega) _).setCell (by simp; omega) _

set_option maxHeartbeats 2000000 in
set_option maxRecDepth 100000 in
theorem vol1 (fb : Nat) (fine : Bool) (x y z x' y' z' x2 y2 z2 : Nat) (p q s : Sp) (hp : IsSp x y z p) (hq : IsSp x' y' z' q) (hs : IsSp x2 y2 z2 s) (w : World) (hf : OwnC w fb #[.bool fine] 4) :
    Calls Try.prog 71 #[.agg #[.float .f32 x, .float .f32 y, .float .f32 z], .agg #[.float .f32 x', .float .f32 y', .float .f32 z'], .agg #[.float .f32 x2, .float .f32 y2, .float .f32 z2], .pointer (some ⟨fb, 0, none⟩)] w fun e w' =>
      (∃ r, e = .returned (.float .f32 r) ∧ F32 r (spDot p (spCross q s))) ∧ OwnC w' fb #[.bool (fine && finSp (spCross q s))] 4 ∧ Ch (fun b => b = fb) w w' := by
  have HP := Lib.hid hp
  have HQ := Lib.hid hq
  have HS := Lib.hid hs
  have hl := hf.lt
  have HF0 := Lib.hid (((hf.alloc (.cells #[.float .f32 x, .float .f32 y, .float .f32 z] 79)).alloc (.cells #[.float .f32 x', .float .f32 y', .float .f32 z'] 79)).alloc (.cells #[.float .f32 x2, .float .f32 y2, .float .f32 z2] 79))
  have HX := Lib.hid (((OwnC.new (w := w) (cs := #[.float .f32 x, .float .f32 y, .float .f32 z]) (T := 79) rfl).alloc (.cells #[.float .f32 x', .float .f32 y', .float .f32 z'] 79)).alloc (.cells #[.float .f32 x2, .float .f32 y2, .float .f32 z2] 79))
  have HB : Hid (Below w.heap.size w (((w.alloc (.cells #[.float .f32 x, .float .f32 y, .float .f32 z] 79)).alloc (.cells #[.float .f32 x', .float .f32 y', .float .f32 z'] 79)).alloc (.cells #[.float .f32 x2, .float .f32 y2, .float .f32 z2] 79))) := by
    show Below _ _ _
    (repeat (first | exact Below.refl _ _ | assumption | refine below_dr ?_ _ | refine Below.alloc ?_ (by first | omega | (simp; done) | (simp; omega)) _ | refine Below.setCell ?_ (by first | omega | (simp; done) | (simp; omega)) _ | refine Below.trans ?_ (Below.mono (by assumption) (by first | omega | (simp; done) | (simp; omega)))))
  clear hp hq hs hf
  cases fine
  · go_enter Try.func71, Try.ntmps71
    go_wp2_with (first
      | (go_at_call 72; refine (crossB x' y' z' x2 y2 z2 q s HQ.out HS.out _).mono ?_; rintro e w5 ⟨⟨a, b, c, rfl, hab⟩, hb5⟩; have HAB := Lib.hid hab; have HF5 := Lib.hid ((HF0.out.below hb5 (by simp; omega)).alloc (.cells #[.float .f32 a, .float .f32 b, .float .f32 c] 79)); have HX5 := Lib.hid ((HX.out.below hb5 (by simp; omega)).alloc (.cells #[.float .f32 a, .float .f32 b, .float .f32 c] 79)); have f0 := HF5.out.cell 0; have g0 := HF5.out.free 0; have cx0 := HX5.out.cell 0; have cx1 := HX5.out.cell 1; have cx2 := HX5.out.cell 2; simp at f0 cx0 cx1 cx2; have z5 := hb5.size; simp at z5; have HB5 := Lib.hid ((HB.out.trans (hb5.mono (by simp; omega))).alloc (by omega) (.cells #[.float .f32 a, .float .f32 b, .float .f32 c] 79)); clear hb5 hab)
      | (go_at_call 74; refine (dotB x y z a b c p _ HP.out HAB.out _).mono ?_; rintro e w6 ⟨⟨r, rfl, hr⟩, hb6⟩))
    have z6 := hb6.size
    simp at z6
    go_ret
    refine ⟨⟨r, rfl, hr⟩, ?_, ?_⟩
    · have : OwnC ((w5.alloc (.cells #[.float .f32 a, .float .f32 b, .float .f32 c] 79)).setCell ⟨fb, 0, none⟩ (.bool false)) fb #[.bool false] 4 := (HF5.out.set 0 _).congr rfl
      exact this.below hb6 (by simp; omega)
    · exact ((Ch.below HB5.out).trans (P' := fun b => b = fb) (Ch.set _ _ _ rfl) (fun b hb => .inl hb)).trans (P' := fun b => b = fb) (Ch.below hb6) (fun b hb => .inl hb)
  · go_enter Try.func71, Try.ntmps71
    go_wp2_with (first
      | (go_at_call 72; refine (crossB x' y' z' x2 y2 z2 q s HQ.out HS.out _).mono ?_; rintro e w5 ⟨⟨a, b, c, rfl, hab⟩, hb5⟩; have HAB := Lib.hid hab; have HF5 := Lib.hid ((HF0.out.below hb5 (by simp; omega)).alloc (.cells #[.float .f32 a, .float .f32 b, .float .f32 c] 79)); have HX5 := Lib.hid ((HX.out.below hb5 (by simp; omega)).alloc (.cells #[.float .f32 a, .float .f32 b, .float .f32 c] 79)); have HT5 := Lib.hid (OwnC.new (w := w5) (cs := #[.float .f32 a, .float .f32 b, .float .f32 c]) (T := 79) rfl); have f0 := HF5.out.cell 0; simp at f0; have z5 := hb5.size; simp at z5; have HB5 := Lib.hid ((HB.out.trans (hb5.mono (by simp; omega))).alloc (by omega) (.cells #[.float .f32 a, .float .f32 b, .float .f32 c] 79)); clear hb5 hab)
      | (go_at_call 73; refine (isSpotQ a b c _ HAB.out _).mono ?_; rintro e w7 ⟨rfl, hb7⟩; have HF7 := Lib.hid (HF5.out.below hb7 (by simp; omega)); have HX7 := Lib.hid (HX5.out.below hb7 (by simp; omega)); have HT7 := Lib.hid (HT5.out.below hb7 (by simp)); clear f0; have f0 := HF7.out.cell 0; have g0 := HF7.out.free 0; have cx0 := HX7.out.cell 0; have cx1 := HX7.out.cell 1; have cx2 := HX7.out.cell 2; have ct0 := HT7.out.cell 0; have ct1 := HT7.out.cell 1; have ct2 := HT7.out.cell 2; simp at f0 cx0 cx1 cx2 ct0 ct1 ct2; have HB7 := Lib.hid (HB5.out.trans (hb7.mono (by simp; omega))); have z7 := hb7.size; simp at z7; clear hb7)
      | (go_at_call 74; refine (dotB x y z a b c p _ HP.out HAB.out _).mono ?_; rintro e w6 ⟨⟨r, rfl, hr⟩, hb6⟩))
    have z6 := hb6.size
    simp at z6
    go_ret
    refine ⟨⟨r, rfl, hr⟩, ?_, ?_⟩
    · have : OwnC (w7.setCell ⟨fb, 0, none⟩ (.bool (finSp (spCross q s)))) fb #[.bool (true && finSp (spCross q s))] 4 := (HF7.out.set 0 _).congr rfl
      exact this.below hb6 (by simp; omega)
    · exact ((Ch.below HB7.out).trans (P' := fun b => b = fb) (Ch.set _ _ _ rfl) (fun b hb => .inl hb)).trans (P' := fun b => b = fb) (Ch.below hb6) (fun b hb => .inl hb)
end Go.Proofs.Ytbmahankleijkaa

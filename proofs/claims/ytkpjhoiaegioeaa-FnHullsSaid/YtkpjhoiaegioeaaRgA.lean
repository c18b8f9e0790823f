/- Rings: the small functions. -/
import Derived.Test.YtkpjhoiaegioeaaRgP
import Derived.Test.YtkpjhoiaegioeaaOVi
import Derived.Test.YtkpjhoiaegioeaaQApp
import Derived.Test.YtkpjhoiaegioeaaGBase
import Derived.Laws.Bits64b
namespace Go.Fl
open Ieee Go.RowKit
theorem run_fop {op : BinOp} {K : FloatKind} {x y : Nat} {k : Int} {e : Nat} (h : Q K (fop op K x y) k e) : (∀ w, mop op K x y w = fop op K x y) ∧ mdr op K x y = 0 := by
  have hn := h.num
  unfold fop at hn ⊢
  cases hb : floatBits op K x y with
  | some r => exact ⟨fun w => by unfold mop; rw [hb]; rfl, by unfold mdr; rw [hb]; rfl⟩
  | none =>
    rw [hb] at hn
    exfalso
    revert hn
    cases K <;> decide +kernel
theorem Q.canX {x : Nat} {k : Int} {e : Nat} (h : Q .f32 x k e) : Go.Fl.can .f32 x = x := can_of_not (by
  obtain ⟨s, m, i, hr, _⟩ := isN_read h.num
  unfold nanB; rw [hr]; rfl)
theorem finX {x : Nat} {k : Int} {e : Nat} (h : Q .f32 x k e) : fin (can .f32 x) = true := by
  rw [h.canX]
  have h1 := h.sub h (lt24 (by rw [Int.sub_self]; decide))
  rw [Int.sub_self] at h1
  have h2 := h1.order (show Q .f32 0 0 e from ⟨by decide +kernel, by
    have : V .f32 0 = 0 := by decide +kernel
    rw [this, Int.zero_mul], h.le⟩)
  unfold fin feq
  show (FloatKind.f32.format.order (fop .sub .f32 x x) 0 == some .eq) = true
  rw [h2]
  rfl
theorem PX.ok {z : Cx} {p : Zp} {e : Nat} (h : PX z p e) : okPt z = true := by unfold okPt; rw [finX h.1, finX h.2]; rfl
theorem PX.nan {z : Cx} {p : Zp} {e : Nat} (h : PX z p e) : nanB .f32 z.1 = false ∧ nanB .f32 z.2 = false := by
  obtain ⟨s, m, i, hr, _⟩ := isN_read h.1.num
  obtain ⟨s', m', i', hr', _⟩ := isN_read h.2.num
  exact ⟨by unfold nanB; rw [hr]; rfl, by unfold nanB; rw [hr']; rfl⟩
end Go.Fl
namespace Go.Proofs.Ytkpjhoiaegioeaa
open Go.RowKit Go.Fl

theorem plusR {a b : Cx} {p q : Zp} {e : Nat} (ha : PX a p e) (hb : PX b q e) (hp : low p 4194304) (hq : low q 4194304) (w : World) :
    Calls Try.prog 49 #[cV a, cV b] w fun x w' => x = .returned (cV (plusF a b)) ∧ w' = w := by
  have h := ha.plus hb hp hq
  obtain ⟨m1, d1⟩ := run_fop h.1
  obtain ⟨m2, d2⟩ := run_fop h.2
  have dz : ∀ w : World, w.drewN 0 = w := World.drewN_zero
  obtain ⟨a1, a2⟩ := a
  obtain ⟨b1, b2⟩ := b
  clear h ha hb hp hq
  unfold cV
  go_enter Try.func49, Try.ntmps49
  go_wp2_with fail
  go_ret
  exact ⟨rfl, rfl⟩
theorem minusR {a b : Cx} {p q : Zp} {e : Nat} (ha : PX a p e) (hb : PX b q e) (hp : low p 4194304) (hq : low q 4194304) (w : World) :
    Calls Try.prog 47 #[cV a, cV b] w fun x w' => x = .returned (cV (minusF a b)) ∧ w' = w := by
  have h := ha.minus hb hp hq
  obtain ⟨m1, d1⟩ := run_fop h.1
  obtain ⟨m2, d2⟩ := run_fop h.2
  have dz : ∀ w : World, w.drewN 0 = w := World.drewN_zero
  obtain ⟨a1, a2⟩ := a
  obtain ⟨b1, b2⟩ := b
  clear h ha hb hp hq
  unfold cV
  go_enter Try.func47, Try.ntmps47
  go_wp2_with fail
  go_ret
  exact ⟨rfl, rfl⟩
theorem scaledR {a : Cx} {s : Nat} {p : Zp} {j : Int} {e f : Nat} (ha : PX a p e) (hs : Q .f32 s j f) (hp : low p 65536) (hj : j.natAbs ≤ 64) (he : e + f ≤ 149) (w : World) :
    Calls Try.prog 48 #[cV a, .float .f32 s] w fun x w' => x = .returned (cV (scaleF a s)) ∧ w' = w := by
  have h := ha.scale hs hp hj he
  obtain ⟨m1, d1⟩ := run_fop h.1
  obtain ⟨m2, d2⟩ := run_fop h.2
  have dz : ∀ w : World, w.drewN 0 = w := World.drewN_zero
  obtain ⟨a1, a2⟩ := a
  clear h ha hs hp
  unfold cV
  go_enter Try.func48, Try.ntmps48
  go_wp2_with fail
  go_ret
  exact ⟨rfl, rfl⟩
/-- the point some places further, of a closed list -/
theorem nbrClosed (lo hi : Nat) (ao : Option Addr) (c : Nat) (xs : List Cx) (n i j : Nat) (by_ : Int) (hn : xs.length = n) (hn2 : n ≤ 1048576) (hi' : i < n) (hj : j < n) (hb : -4 ≤ by_) (hb4 : by_ ≤ 4) (hm : (((i : Int) + by_).tmod n + n).tmod n = j) (w : World) (hs : SlC w lo hi ao xs) :
    Calls Try.prog 46 #[.slice ao n c, .bool true, .int .i64 i, .int .i64 by_] w fun x w' => x = .returned (.tuple #[cV (cAt xs j), .bool true]) ∧ w' = w := by
  have HN := Lib.hid hn
  obtain ⟨b, rfl, hb1, hb2, hc⟩ := hs (by omega)
  have hcell := hc j (by omega)
  have n0 : ¬ n = 0 := by omega
  have n1 : (n : Int) ≤ 1048576 := by omega
  have i0 : (0 : Int) ≤ (i : Int) := by omega
  have i1 : (i : Int) < (n : Int) := by omega
  obtain ⟨t, ht⟩ : ∃ t, t = ((i : Int) + by_).tmod n := ⟨_, rfl⟩
  have t1 : -(n : Int) < t := by rw [ht]; have := Int.lt_tmod_of_pos ((i : Int) + by_) (show (0 : Int) < (n : Int) by omega); omega
  have t2 : t < (n : Int) := by rw [ht]; exact Int.tmod_lt_of_pos _ (by omega)
  rw [← ht] at hm
  have j0 : (0 : Int) ≤ (j : Int) := by omega
  have j1 : (j : Int) < (n : Int) := by omega
  have ht' := ht.symm
  clear hc hn hs hb1 hb2 ht
  unfold cV at hcell ⊢
  go_enter Try.func46, Try.ntmps46
  go_wp2_with fail
  go_ret2
  exact ⟨rfl, rfl⟩
theorem nbrOpen (lo hi : Nat) (ao : Option Addr) (c : Nat) (xs : List Cx) (n i j : Nat) (by_ : Int) (hn : xs.length = n) (hn2 : n ≤ 1048576) (hi' : i < n) (hj : j < n) (hb : -4 ≤ by_) (hb4 : by_ ≤ 4) (hm : (i : Int) + by_ = j) (w : World) (hs : SlC w lo hi ao xs) :
    Calls Try.prog 46 #[.slice ao n c, .bool false, .int .i64 i, .int .i64 by_] w fun x w' => x = .returned (.tuple #[cV (cAt xs j), .bool true]) ∧ w' = w := by
  have HN := Lib.hid hn
  obtain ⟨b, rfl, hb1, hb2, hc⟩ := hs (by omega)
  have hcell := hc j (by omega)
  have n1 : (n : Int) ≤ 1048576 := by omega
  have i0 : (0 : Int) ≤ (i : Int) := by omega
  have i1 : (i : Int) < (n : Int) := by omega
  have j0 : ¬ (j : Int) < 0 := by omega
  have j1 : ¬ (n : Int) ≤ (j : Int) := by omega
  have j2 : (0 : Int) ≤ (j : Int) := by omega
  have j3 : (j : Int) < (n : Int) := by omega
  clear hc hn hs hb1 hb2
  unfold cV at hcell ⊢
  go_enter Try.func46, Try.ntmps46
  go_wp2_with fail
  go_ret2
  exact ⟨rfl, rfl⟩
theorem nbrNone (ao : Option Addr) (c n i : Nat) (by_ : Int) (hn2 : n ≤ 1048576) (hi' : i < n) (hb : -4 ≤ by_) (hb4 : by_ ≤ 4) (hm : (i : Int) + by_ < 0 ∨ (n : Int) ≤ (i : Int) + by_) (w : World) :
    Calls Try.prog 46 #[.slice ao n c, .bool false, .int .i64 i, .int .i64 by_] w fun x w' => x = .returned (.tuple #[cV (0, 0), .bool false]) ∧ w' = w := by
  have n1 : (n : Int) ≤ 1048576 := by omega
  have i0 : (0 : Int) ≤ (i : Int) := by omega
  have i1 : (i : Int) < (n : Int) := by omega
  unfold cV
  by_cases h1 : (i : Int) + by_ < 0
  · clear hm
    go_enter Try.func46, Try.ntmps46
    go_wp2_with fail
    go_ret2
    exact ⟨rfl, rfl⟩
  · have h2 : (n : Int) ≤ (i : Int) + by_ := by omega
    clear hm
    go_enter Try.func46, Try.ntmps46
    go_wp2_with fail
    go_ret2
    exact ⟨rfl, rfl⟩
end Go.Proofs.Ytkpjhoiaegioeaa

/- (XQSrc) The source of draws: next, pick, text. -/
import Derived.Test.YtkbikfifnaihlaaGBase
import Derived.Laws.Bits64b
namespace Go.Fl
open Go.RowKit
/-- the bytes drawn from: a slice of a block below P -/
def CodeAt (w : World) (P : Nat) (a : Option Addr) (n : Nat) : Prop := 0 < n → ∃ b off, a = some ⟨b, off, none⟩ ∧ b < P ∧ ∀ i, i < n → ∃ x : Nat, w.cell? ⟨b, off + i, none⟩ = some (.int .u8 x) ∧ x ≤ 255
theorem CodeAt.far {w w' : World} {P : Nat} {a : Option Addr} {n : Nat} (h : CodeAt w P a n) (hf : Far 0 P w w') : CodeAt w' P a n := fun hp => by
  obtain ⟨b, off, rfl, hb, hc⟩ := h hp
  refine ⟨b, off, rfl, hb, fun i hi => ?_⟩
  obtain ⟨x, hx, h255⟩ := hc i hi
  exact ⟨x, (hf.cell (Nat.zero_le _) hb).trans hx, h255⟩
/-- the source at block p -/
def SrcAt (w : World) (T : TypeId) (p : Nat) (a : Option Addr) (n c m : Nat) : Prop := ∃ (at_ : Nat) (seed : Int), OwnC w p #[.slice a n c, .int .i64 at_, .int .u64 seed] T ∧ at_ ≤ m ∧ CodeAt w p a n
theorem SrcAt.mono {w : World} {T : TypeId} {p n c m m' : Nat} {a : Option Addr} (h : SrcAt w T p a n c m) (hm : m ≤ m') : SrcAt w T p a n c m' := by
  obtain ⟨x, s, h1, h2, h3⟩ := h
  exact ⟨x, s, h1, by omega, h3⟩
theorem SrcAt.far {w w' : World} {T : TypeId} {p n c m : Nat} {a : Option Addr} (h : SrcAt w T p a n c m) (hf : Far 0 (p + 1) w w') : SrcAt w' T p a n c m := by
  obtain ⟨x, s, h1, h2, h3⟩ := h
  exact ⟨x, s, (hf p (Nat.zero_le _) (Nat.lt_succ_self _)).trans h1, h2, h3.far (fun k k1 k2 => hf k k1 (by omega))⟩
end Go.Fl
namespace Go.Proofs.Ytkbikfifnaihlaa
open Go.RowKit Go.Fl

theorem mask8 (y : Int) : ∃ r : Nat, wrap64 (bits .and .u64 (IntKind.u64.wrap y / 1099511627776) 255) = (r : Int) ∧ r ≤ 255 := by
  have h1 : 0 ≤ IntKind.u64.wrap y ∧ IntKind.u64.wrap y < 18446744073709551616 := by rw [IntKind.wrap_u64]; omega
  obtain ⟨z, hz⟩ := Int.eq_ofNat_of_zero_le (show 0 ≤ IntKind.u64.wrap y / 1099511627776 by omega)
  have hz2 : z < 18446744073709551616 := by omega
  rw [hz]
  have hb := bits_and_u64_nat z 255 hz2 (by decide)
  rw [show ((255 : Nat) : Int) = 255 from rfl] at hb
  rw [hb]
  have := Nat.and_le_right (n := z) (m := 255)
  refine ⟨z &&& 255, ?_, this⟩
  unfold wrap64
  omega

end Go.Proofs.Ytkbikfifnaihlaa

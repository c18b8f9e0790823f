/- (XQSrc) The source of draws: next, pick, text. -/
import Derived.Test.YtodkhkphagcfiaaGBase
import Derived.Laws.Bits64b
namespace Go.Fl
open Go.RowKit
/-- the bytes drawn from: a slice of a block below P -/
def CodeAt (w : World) (P : Nat) (a : Option Addr) (n : Nat) : Prop := 0 < n → ∃ b off, a = some ⟨b, off, none⟩ ∧ b < P ∧ ∀ i, i < n → ∃ x : Nat, w.cell? ⟨b, off + i, none⟩ = some (.int .u8 x) ∧ x ≤ 255
theorem CodeAt.far {w w' : World} {P : Nat} {a : Option Addr} {n : Nat} (h : CodeAt w P a n) (hf : Far 0 P w w') : CodeAt w' P a n := fun hp => by
  obtain ⟨b, off, rfl, hb, hc⟩ := h hp
  refine ⟨b, off, rfl, hb, fun i hi => ?_⟩
  obtain ⟨x, hx, h255⟩ := hc i hi
  exact ⟨x, (hf.cell (Nat.zero_le _) hb).trans hx, h255⟩
/-- the source at block p -/
def SrcAt (w : World) (T : TypeId) (p : Nat) (a : Option Addr) (n c m : Nat) : Prop := ∃ (at_ : Nat) (seed : Int), OwnC w p #[.slice a n c, .int .i64 at_, .int .u64 seed] T ∧ at_ ≤ m ∧ CodeAt w p a n
theorem SrcAt.mono {w : World} {T : TypeId} {p n c m m' : Nat} {a : Option Addr} (h : SrcAt w T p a n c m) (hm : m ≤ m') : SrcAt w T p a n c m' := by
  obtain ⟨x, s, h1, h2, h3⟩ := h
  exact ⟨x, s, h1, by omega, h3⟩
theorem SrcAt.far {w w' : World} {T : TypeId} {p n c m : Nat} {a : Option Addr} (h : SrcAt w T p a n c m) (hf : Far 0 (p + 1) w w') : SrcAt w' T p a n c m := by
  obtain ⟨x, s, h1, h2, h3⟩ := h
  exact ⟨x, s, (hf p (Nat.zero_le _) (Nat.lt_succ_self _)).trans h1, h2, h3.far (fun k k1 k2 => hf k k1 (by omega))⟩
end Go.Fl
namespace Go.Proofs.Ytodkhkphagcfiaa
open Go.RowKit Go.Fl

theorem mask8 (y : Int) : ∃ r : Nat, wrap64 (bits .and .u64 (IntKind.u64.wrap y / 1099511627776) 255) = (r : Int) ∧ r ≤ 255 := by
  have h1 : 0 ≤ IntKind.u64.wrap y ∧ IntKind.u64.wrap y < 18446744073709551616 := by rw [IntKind.wrap_u64]; omega
  obtain ⟨z, hz⟩ := Int.eq_ofNat_of_zero_le (show 0 ≤ IntKind.u64.wrap y / 1099511627776 by omega)
  have hz2 : z < 18446744073709551616 := by omega
  rw [hz]
  have hb := bits_and_u64_nat z 255 hz2 (by decide)
  rw [show ((255 : Nat) : Int) = 255 from rfl] at hb
  rw [hb]
  have := Nat.and_le_right (n := z) (m := 255)
  refine ⟨z &&& 255, ?_, this⟩
  unfold wrap64
  omega

set_option maxHeartbeats 1000000 in
set_option maxRecDepth 100000 in
theorem nextS (p : Nat) (a : Option Addr) (n c m : Nat) (hn : n ≤ 1048576) (hm : m ≤ 1000000) (w : World) (h : SrcAt w 52 p a n c m) :
    Calls Try.prog 27 #[.pointer (some ⟨p, 0, none⟩)] w fun e w' => (∃ r : Nat, e = .returned (.int .i64 r) ∧ r ≤ 255) ∧ SrcAt w' 52 p a n c (m + 1) ∧ Only (fun c => c = p) w w' := by
  obtain ⟨t, seed, ho, htm, hc⟩ := h
  have HO := Lib.hid ho
  have HC := Lib.hid hc
  have c0 := ho.cell 0
  have c1 := ho.cell 1
  have c2 := ho.cell 2
  have f1 := ho.free 1
  have f2 := ho.free 2
  simp at c0 c1 c2
  clear ho hc
  have t0 : (0 : Int) ≤ (t : Int) := by omega
  have t1 : (t : Int) ≤ 1000000 := by omega
  go_enter Try.func27, Try.ntmps27
  by_cases hlt : t < n
  · have hlt' : (t : Int) < (n : Int) := by omega
    obtain ⟨b, off, rfl, hb, hcc⟩ := HC.out (by omega)
    obtain ⟨x, hx, h255⟩ := hcc t hlt
    have hle : (t : Int) + 1 ≤ (n : Int) := by omega
    have hnp : ¬ b = p := by omega
    clear hcc
    go_wp2_with fail
    go_quiet (fail)
    go_wp2_with fail
    go_quiet (fail)
    go_wp2_with fail
    go_quiet (fail)
    go_wp2_with fail
    go_ret
    have hO1 := (HO.out.set 1 (.int .i64 ((t : Int) + 1))).set 2 (.int .u64 (IntKind.u64.wrap (IntKind.u64.wrap (IntKind.u64.wrap (seed * 6364136223846793005) + (x : Int)) + 1442695040888963407)))
    refine ⟨⟨x, rfl, h255⟩, ⟨t + 1, _, (hO1.congr (by simp; rfl)), by omega, ?_⟩, ?_⟩
    · exact HC.out.far (((Far.refl _ _ _).set _ _ (.inr (by simp))).set _ _ (.inr (by simp)))
    · exact ((((Only.refl (fun c => c = p) _).set p 1 _ rfl).set p 2 _ rfl).drewN _).drewN _
  · have hlt' : ¬ (t : Int) < (n : Int) := by omega
    have hle : ¬ (t : Int) + 1 ≤ (n : Int) := by omega
    go_wp2_with fail
    go_quiet (fail)
    go_wp2_with fail
    go_quiet (fail)
    go_wp2_with fail
    go_ret
    obtain ⟨r, hr, hr255⟩ := mask8 (IntKind.u64.wrap (IntKind.u64.wrap (seed * 6364136223846793005)) + 1442695040888963407)
    have hO1 := (HO.out.set 1 (.int .i64 ((t : Int) + 1))).set 2 (.int .u64 (IntKind.u64.wrap (IntKind.u64.wrap (IntKind.u64.wrap (seed * 6364136223846793005)) + 1442695040888963407)))
    refine ⟨⟨r, by rw [← hr]; rfl, hr255⟩, ⟨t + 1, _, (hO1.congr (by simp; rfl)), by omega, ?_⟩, ?_⟩
    · exact HC.out.far (((Far.refl _ _ _).set _ _ (.inr (by simp))).set _ _ (.inr (by simp)))
    · exact (((Only.refl (fun c => c = p) _).set p 1 _ rfl).set p 2 _ rfl).drewN _

set_option maxHeartbeats 1000000 in
theorem pickS (p : Nat) (a : Option Addr) (n c m k : Nat) (hn : n ≤ 1048576) (hm : m ≤ 1000000) (hk : 1 < k) (hk2 : k ≤ 200) (w : World) (h : SrcAt w 52 p a n c m) :
    Calls Try.prog 12 #[.pointer (some ⟨p, 0, none⟩), .int .i64 (k : Nat)] w fun e w' => (∃ r : Nat, e = .returned (.int .i64 r) ∧ r < k) ∧ SrcAt w' 52 p a n c (m + 1) ∧ Only (fun c => c = p) w w' := by
  have H := Lib.hid h
  clear h
  have k0 : ¬ (k : Int) ≤ 1 := by omega
  have k1 : ¬ (200 : Int) < (k : Int) := by omega
  have k2 : ¬ (k : Int) = 0 := by omega
  go_enter Try.func12, Try.ntmps12
  go_wp2_with fail
  refine (nextS p a n c m hn hm _ H.out).mono ?_
  rintro e w1 ⟨⟨r, rfl, hr⟩, hs, ho⟩
  have HS := Lib.hid hs
  have HO := Lib.hid ho
  clear hs ho
  have r0 : (0 : Int) ≤ (r : Int) := by omega
  have r1 : (r : Int) ≤ 255 := by omega
  go_wp2_with fail
  go_ret
  exact ⟨⟨r % k, rfl, Nat.mod_lt _ (by omega)⟩, HS.out, HO.out⟩

end Go.Proofs.Ytodkhkphagcfiaa

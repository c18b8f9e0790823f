/- Contract: slices.Reverse of numbers. -/
import Derived.Test.YtbmahankleijkaaBackD
import Derived.Deep.RegionLaw
import Derived.Deep.Cut
import Derived.Deep.CutRange
namespace Go.Proofs.Ytbmahankleijkaa
open Go.RowKit Go.Fl

/-- place p, the first k and the last k turned -/
def rvF (xs : List Int) (k p : Nat) : Int := if p < k ∨ xs.length ≤ p + k then iAt xs (xs.length - 1 - p) else iAt xs p
/-- the block reads so -/
def Rd (w : World) (b n : Nat) (f : Nat → Int) : Prop := ∀ p, p < n → w.cell? ⟨b, p, none⟩ = some (.int .i64 (f p))
theorem Rd.step {w w' : World} {b : Nat} {xs : List Int} {k : Nat} (h : Rd w b xs.length (rvF xs k)) (hk : k + k + 1 < xs.length)
    (h1 : w'.cell? ⟨b, k, none⟩ = some (.int .i64 (iAt xs (xs.length - 1 - k)))) (h2 : w'.cell? ⟨b, xs.length - 1 - k, none⟩ = some (.int .i64 (iAt xs k)))
    (h3 : ∀ p, p ≠ k → p ≠ xs.length - 1 - k → w'.cell? ⟨b, p, none⟩ = w.cell? ⟨b, p, none⟩) : Rd w' b xs.length (rvF xs (k + 1)) := fun p hp => by
  by_cases e1 : p = k
  · subst e1
    rw [h1, rvF, if_pos (.inl (by omega))]
  · by_cases e2 : p = xs.length - 1 - k
    · subst e2
      rw [h2, rvF, if_pos (.inr (by omega))]
      congr 3; omega
    · rw [h3 p e1 e2, h p hp]
      unfold rvF
      by_cases c : p < k ∨ xs.length ≤ p + k
      · rw [if_pos c, if_pos (by omega)]
      · rw [if_neg c, if_neg (by omega)]
theorem rvF_end {xs : List Int} {k p : Nat} (hp : p < xs.length) (hk : xs.length ≤ k + k + 1) : rvF xs k p = iAt xs (xs.length - 1 - p) := by
  unfold rvF
  by_cases c : p < k ∨ xs.length ≤ p + k
  · rw [if_pos c]
  · rw [if_neg c]; congr 1; omega
theorem set2 {w : World} {b i j : Nat} {u v : Value} (hij : i ≠ j) (hi : (w.cell? ⟨b, i, none⟩).isSome = true) (hj : (w.cell? ⟨b, j, none⟩).isSome = true) :
    ((w.setCell ⟨b, i, none⟩ u).setCell ⟨b, j, none⟩ v).cell? ⟨b, i, none⟩ = some u ∧ ((w.setCell ⟨b, i, none⟩ u).setCell ⟨b, j, none⟩ v).cell? ⟨b, j, none⟩ = some v ∧
      ∀ p, p ≠ i → p ≠ j → ((w.setCell ⟨b, i, none⟩ u).setCell ⟨b, j, none⟩ v).cell? ⟨b, p, none⟩ = w.cell? ⟨b, p, none⟩ := by
  obtain ⟨x, hx⟩ := Option.isSome_iff_exists.1 hi
  obtain ⟨y, hy⟩ := Option.isSome_iff_exists.1 hj
  refine ⟨?_, ?_, fun p h1 h2 => ?_⟩
  · rw [World.cell?_setCell_other _ _ _ _ (by simp only [ne_eq, Addr.mk.injEq]; omega)]
    exact World.cell?_setCell_same _ _ _ hx
  · exact World.cell?_setCell_same _ _ _ ((World.cell?_setCell_other _ _ _ _ (by simp only [ne_eq, Addr.mk.injEq]; omega)).trans hy)
  · rw [World.cell?_setCell_other _ _ _ _ (by simp only [ne_eq, Addr.mk.injEq]; omega), World.cell?_setCell_other _ _ _ _ (by simp only [ne_eq, Addr.mk.injEq]; omega)]

set_option maxHeartbeats 2000000 in
set_option maxRecDepth 100000 in
theorem reverseI (b c : Nat) (xs : List Int) (hn : xs.length ≤ 1048576) (w : World) (hr : Room w b xs.length) (hd : Rd w b xs.length (iAt xs)) :
    Calls Try.prog 65 #[.slice (some ⟨b, 0, none⟩) xs.length c] w fun e w' => e = .returned (.tuple #[]) ∧ Only (fun c => c = b) w w' ∧ Rd w' b xs.length (fun p => iAt xs (xs.length - 1 - p)) := by
  have HR := Lib.hid hr
  have HD0 : Hid (Rd w b xs.length (rvF xs 0)) := Lib.hid fun p hp => by rw [rvF, if_neg (by omega)]; exact hd p hp
  have u0 : IntKind.i64.wrap ((xs.length : Int) - 1) = (xs.length : Int) - 1 := by rw [IntKind.wrap_i64]; omega
  clear hr hd
  go_enter Try.func65, Try.ntmps65
  go_wp2_with fail
  go_loopw [2, 3] (fun i j wr => ∃ k : Nat, k + k ≤ xs.length + 1 ∧ i = .int .i64 k ∧ j = .int .i64 ((xs.length : Int) - 1 - k) ∧ Hid (Only (fun c => c = b) w wr) ∧ Hid (Rd wr b xs.length (rvF xs k))) (fun i _ _ => xs.length - (intOf i).toNat)
  case atStart => exact ⟨0, by omega, rfl, by simp, Lib.hid (Only.refl _ _), HD0⟩
  case round =>
    clear HD0
    obtain ⟨k, hk, rfl, rfl, HO, HD⟩ := hrel
    by_cases hlt : k + k + 1 < xs.length
    · obtain ⟨q, hq⟩ : ∃ q, q = xs.length - 1 - k := ⟨_, rfl⟩
      have hqi : (xs.length : Int) - 1 - (k : Int) = (q : Int) := by omega
      have c1 := HD.out k (by omega)
      have c2 := HD.out q (by omega)
      have v1 : rvF xs k k = iAt xs k := by rw [rvF, if_neg (by omega)]
      have v2 : rvF xs k q = iAt xs q := by rw [rvF, if_neg (by omega)]
      rw [v1] at c1
      rw [v2] at c2
      have hroom := HO.out.room _ _ HR.out
      have f1 := hroom.free k
      have f2 := hroom.free q
      rw [hqi]
      have k0 : (0 : Int) ≤ (k : Int) := by omega
      have k1 : (k : Int) < (xs.length : Int) := by omega
      have k2 : (0 : Int) ≤ (q : Int) := by omega
      have k3 : (q : Int) < (xs.length : Int) := by omega
      have k4 : (k : Int) < (q : Int) := by omega
      have hkq : ¬ k = q := by omega
      have hqk : ¬ q = k := by omega
      have u1 : IntKind.i64.wrap ((q : Int) - 1) = (xs.length : Int) - 1 - ((k + 1 : Nat) : Int) := by rw [IntKind.wrap_i64]; omega
      have HQ := Lib.hid hq
      clear hroom v1 v2 hq hqi
      go_wp2_with fail
      go_region
      go_wp2_with fail
      go_roundw
      case rel =>
        obtain ⟨s1, s2, s3⟩ := set2 (w := wr) (b := b) (u := .int .i64 (iAt xs q)) (v := .int .i64 (iAt xs k)) hkq (by rw [c1]; rfl) (by rw [c2]; rfl)
        have hst := Rd.step HD.out hlt (by rw [← HQ.out]; exact s1) (by rw [← HQ.out]; exact s2) (fun p h1 h2 => s3 p h1 (by rw [HQ.out]; exact h2))
        have hon := (HO.out.set b k (.int .i64 (iAt xs q)) rfl).set b q (.int .i64 (iAt xs k)) rfl
        exact ⟨k + 1, by omega, by go_num, by go_num, Lib.hid (by first | exact hon | exact Only.dr hon 1), Lib.hid (by exact hst)⟩
      case measure => simp [intOf]; omega
    · have hkk : ¬ ((k : Int) < (xs.length : Int) - 1 - (k : Int)) := by omega
      go_wp2_with fail
      go_end0
      exact ⟨rfl, HO.out, fun p hp => by rw [HD.out p hp, rvF_end hp (by omega)]⟩
end Go.Proofs.Ytbmahankleijkaa

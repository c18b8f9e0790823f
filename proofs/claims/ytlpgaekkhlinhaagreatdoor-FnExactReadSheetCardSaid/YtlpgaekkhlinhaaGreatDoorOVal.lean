/- Loops of complex numbers in memory; what is valid: the reference's functions. -/
import Derived.Test.YtlpgaekkhlinhaaGreatDoorOByt
import Derived.Test.YtlpgaekkhlinhaaGreatDoorPl
import Derived.Deep.QuietTactic
import Derived.BigQuiet
import Derived.Deep.RegionHeld3
namespace Go.Fl
open Go.RowKit
def cV (z : Cx) : Value := .complex .f32 z.1 z.2
def cAt (l : List Cx) (i : Nat) : Cx := l.getD i (0, 0)
/-- a slice at ao reads as the numbers l; its block lies from lo up to hi -/
def SlC (w : World) (lo hi : Nat) (ao : Option Addr) (l : List Cx) : Prop :=
  0 < l.length → ∃ b, ao = some ⟨b, 0, none⟩ ∧ lo ≤ b ∧ b < hi ∧ ∀ i, i < l.length → w.cell? ⟨b, i, none⟩ = some (cV (cAt l i))
/-- a slice at ao reads as the loops ls -/
def SlL (w : World) (lo hi : Nat) (ao : Option Addr) (ls : List (List Cx)) : Prop :=
  0 < ls.length → ∃ b, ao = some ⟨b, 0, none⟩ ∧ lo ≤ b ∧ b < hi ∧ ∀ i, i < ls.length → ∃ ai ci, w.cell? ⟨b, i, none⟩ = some (.slice ai (lpAt ls i).length ci) ∧ SlC w lo hi ai (lpAt ls i)
theorem SlC.far {w w' : World} {lo hi : Nat} {ao : Option Addr} {l : List Cx} (h : SlC w lo hi ao l) (hf : Far lo hi w w') : SlC w' lo hi ao l := fun hp => by
  obtain ⟨b, rfl, h1, h2, hc⟩ := h hp
  exact ⟨b, rfl, h1, h2, fun i hi => (hf.cell h1 h2).trans (hc i hi)⟩
theorem SlC.mono {w : World} {lo hi lo' hi' : Nat} {ao : Option Addr} {l : List Cx} (h : SlC w lo hi ao l) (hl : lo' ≤ lo) (hh : hi ≤ hi') : SlC w lo' hi' ao l := fun hp => by
  obtain ⟨b, rfl, h1, h2, hc⟩ := h hp
  exact ⟨b, rfl, by omega, by omega, hc⟩
theorem SlL.far {w w' : World} {lo hi : Nat} {ao : Option Addr} {ls : List (List Cx)} (h : SlL w lo hi ao ls) (hf : Far lo hi w w') : SlL w' lo hi ao ls := fun hp => by
  obtain ⟨b, rfl, h1, h2, hc⟩ := h hp
  refine ⟨b, rfl, h1, h2, fun i hi => ?_⟩
  obtain ⟨ai, ci, c1, s1⟩ := hc i hi
  exact ⟨ai, ci, (hf.cell h1 h2).trans c1, s1.far hf⟩
theorem SlL.mono {w : World} {lo hi lo' hi' : Nat} {ao : Option Addr} {ls : List (List Cx)} (h : SlL w lo hi ao ls) (hl : lo' ≤ lo) (hh : hi ≤ hi') : SlL w lo' hi' ao ls := fun hp => by
  obtain ⟨b, rfl, h1, h2, hc⟩ := h hp
  refine ⟨b, rfl, by omega, by omega, fun i hi => ?_⟩
  obtain ⟨ai, ci, c1, s1⟩ := hc i hi
  exact ⟨ai, ci, c1, s1.mono hl hh⟩
instance (s : ByteArray) (k : Nat) : Decidable (lowS s k) := inferInstanceAs (Decidable (∀ i, i < k → 97 ≤ bN s i ∧ bN s i ≤ 122))
instance (s : ByteArray) : Decidable (okName s) := inferInstanceAs (Decidable (lowS s s.size ∧ 1 ≤ s.size ∧ s.size ≤ 8))
instance (nm : ByteArray) (ls : List (List Cx)) : Decidable (okOut nm ls) := inferInstanceAs (Decidable (okName nm ∧ 1 ≤ ls.length ∧ ls.length ≤ 4 ∧ ls.all okLoop = true))
theorem lowS.succ {s : ByteArray} {k : Nat} (h : lowS s k) (hk : 97 ≤ bN s k ∧ bN s k ≤ 122) : lowS s (k + 1) := fun i hi => by
  rcases Nat.lt_succ_iff_lt_or_eq.1 hi with h1 | rfl
  · exact h i h1
  · exact hk
theorem all_snoc {α : Type} {p : α → Bool} {xs : List α} {k : Nat} (d : α) (hk : k < xs.length) (hn : (xs.take k).all p = true) (hp : p (xs.getD k d) = true) : (xs.take (k + 1)).all p = true := by
  rw [List.getD_eq_getElem?_getD, List.getElem?_eq_getElem hk] at hp
  rw [List.take_succ_eq_append_getElem hk, List.all_append, hn]; simpa using hp
theorem all_no {α : Type} {p : α → Bool} {xs : List α} {k : Nat} (d : α) (hk : k < xs.length) (hp : p (xs.getD k d) = false) : xs.all p = false := by
  rw [List.getD_eq_getElem?_getD, List.getElem?_eq_getElem hk] at hp
  exact List.all_eq_false.2 ⟨xs[k], List.getElem_mem hk, by rw [show xs[k] = (some xs[k]).getD d from rfl, hp]; decide⟩
end Go.Fl
namespace Go.Proofs.YtlpgaekkhlinhaaGreatDoor
open Go.RowKit Go.Fl

theorem l01Finite (x : Nat) (w : World) : Calls Tryz.prog 129 #[.float .f32 x] w fun e w' => e = .returned (.bool (fin (can .f32 x))) ∧ ∃ n, w' = w.drewN n := by
  go_enter Tryz.func129, Tryz.ntmps129
  go_wp2_with fail
  go_ret
  exact ⟨ret_bool (F32.eq (F32.sub (F32.mk x) (F32.mk x)) F32.zero), _, rfl⟩
theorem l01CFinite (z : Cx) (w : World) : Calls Tryz.prog 96 #[cV z] w fun e w' => e = .returned (.bool (okPt z)) ∧ ∃ n, w' = w.drewN n := by
  unfold cV okPt
  go_enter Tryz.func96, Tryz.ntmps96
  cases h1 : fin (can .f32 z.1)
  · go_wp2_with (go_at_call 129; refine (l01Finite _ _).mono ?_; rintro e w' ⟨rfl, n, rfl⟩)
    go_ret
    exact ⟨rfl, _, rfl⟩
  · go_wp2_with (go_at_call 129; refine (l01Finite _ _).mono ?_; rintro e w' ⟨rfl, n, rfl⟩)
    go_ret
    refine ⟨?_, (by (try simp only [World.drewN_drewN]); exact ⟨_, rfl⟩)⟩
    simp [*]
set_option maxHeartbeats 1000000 in
theorem l02CFinite (lo hi : Nat) (ao : Option Addr) (c : Nat) (l : List Cx) (hn : l.length ≤ 1048576) (w : World) (hs : SlC w lo hi ao l) :
    Calls Tryz.prog 118 #[.slice ao l.length c] w fun e w' => e = .returned (.bool (l.all okPt)) ∧ ∃ n, w' = w.drewN n := by
  have HS := Lib.hid hs
  clear hs
  go_enter Tryz.func118, Tryz.ntmps118
  go_wp2_with fail
  go_loopw [3] (fun i wr => ∃ k q : Nat, k ≤ l.length ∧ i = .int .i64 k ∧ wr = w.drewN q ∧ Hid ((l.take k).all okPt = true)) (fun i _ => l.length - (intOf i).toNat)
  case atStart => exact ⟨0, 0, by omega, rfl, rfl, rfl⟩
  case round =>
    obtain ⟨k, q, hk, rfl, rfl, HA⟩ := hrel
    by_cases hlt : k < l.length
    · obtain ⟨b, rfl, _, _, hc⟩ := HS.out (by omega)
      have c1 := hc k hlt
      clear hc
      have k0 : (0 : Int) ≤ (k : Int) := by omega
      have k1 : (k : Int) < (l.length : Int) := by omega
      cases hp : okPt (cAt l k)
      · have hno := all_no (0, 0) hlt hp
        go_wp2_with (go_at_call 96; refine (l01CFinite _ _).mono ?_; rintro e w' ⟨rfl, n, rfl⟩; rw [hp])
        go_ret
        exact ⟨ret_bool hno.symm, (by (try simp only [World.drewN_drewN]); exact ⟨_, rfl⟩)⟩
      · have HY := Lib.hid (all_snoc (0, 0) hlt HA.out hp)
        go_wp2_with (go_at_call 96; refine (l01CFinite _ _).mono ?_; rintro e w' ⟨rfl, n, rfl⟩; rw [hp])
        go_roundw
        case rel => exact ⟨k + 1, _, by omega, by go_num, rfl, HY⟩
        case measure => simp [intOf]; omega
    · have e : l.take k = l := List.take_of_length_le (by omega)
      have hy : l.all okPt = true := by rw [← e]; exact HA.out
      go_wp2_with fail
      go_ret
      exact ⟨ret_bool hy.symm, _, rfl⟩
end Go.Proofs.YtlpgaekkhlinhaaGreatDoor

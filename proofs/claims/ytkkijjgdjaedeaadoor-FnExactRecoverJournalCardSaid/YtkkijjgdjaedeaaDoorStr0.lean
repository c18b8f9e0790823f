/- Contracts: lists of strings: how much they hold, their equality, by the law's own functions. -/
import Derived.Test.YtkkijjgdjaedeaaDoorChecked
import Derived.Test.YtkkijjgdjaedeaaDoorMem
import Derived.Test.YtkkijjgdjaedeaaDoorRow
import Derived.IntWalk
import Derived.Below
import Derived.Deep.OwnRows
import Derived.Deep.QuietTactic
import Derived.BigQuiet
namespace Go.Fl
def sAt (ps : List ByteArray) (i : Nat) : ByteArray := ps.getD i ⟨#[]⟩
/-- a slice at ao reads as the strings ps; its block lies from lo up to hi -/
def SlT (w : World) (lo hi : Nat) (ao : Option Addr) (ps : List ByteArray) : Prop :=
  0 < ps.length → ∃ b off, ao = some ⟨b, off, none⟩ ∧ lo ≤ b ∧ b < hi ∧ ∀ i, i < ps.length → w.cell? ⟨b, off + i, none⟩ = some (.string (sAt ps i))
theorem SlT.far {w w' : World} {lo hi : Nat} {ao : Option Addr} {ps : List ByteArray} (h : SlT w lo hi ao ps) (hf : Far lo hi w w') : SlT w' lo hi ao ps := fun hp => by
  obtain ⟨b, off, rfl, h1, h2, hc⟩ := h hp
  exact ⟨b, off, rfl, h1, h2, fun i hi => (hf.cell h1 h2).trans (hc i hi)⟩
theorem SlT.mono {w : World} {lo hi lo' hi' : Nat} {ao : Option Addr} {ps : List ByteArray} (h : SlT w lo hi ao ps) (hl : lo' ≤ lo) (hh : hi ≤ hi') : SlT w lo' hi' ao ps := fun hp => by
  obtain ⟨b, off, rfl, h1, h2, hc⟩ := h hp
  exact ⟨b, off, rfl, by omega, by omega, hc⟩
/-- how many letters the first k strings have together -/
def lens (ps : List ByteArray) : Nat → Nat
  | 0 => 0
  | k + 1 => lens ps k + (sAt ps k).size
/-- every string's length fits -/
def Fit (ps : List ByteArray) : Prop := ∀ i, i < ps.length → (sAt ps i).size ≤ 9223372036854775807
theorem rowT {w : World} {b : Nat} {T : TypeId} {n : Nat} {f : Nat → Value} {ps : List ByteArray} (h : w.rowIs b T n f) (hn : n = ps.length) (hf : ∀ i, i < n → f i = .string (sAt ps i)) : SlT w b (b + 1) (some ⟨b, 0, none⟩) ps := by
  subst hn
  refine fun _ => ⟨b, 0, rfl, Nat.le_refl _, Nat.lt_succ_self _, fun i hi => ?_⟩
  rw [Nat.zero_add, h.cell hi, hf i hi]
theorem strStep (f : Nat → ByteArray) (j k : Nat) : (if j = k then Value.string (f k) else .string (if j < k then f j else ⟨#[]⟩)) = .string (if j < k + 1 then f j else ⟨#[]⟩) := by
  by_cases h : j = k
  · subst h; simp
  · rw [if_neg h]
    by_cases h2 : j < k
    · rw [if_pos h2, if_pos (by omega)]
    · rw [if_neg h2, if_neg (by omega)]
end Go.Fl
namespace Go.Proofs.YtkkijjgdjaedeaaDoor
open Go.RowKit Go.Fl

set_option maxHeartbeats 1000000 in
theorem eqStringS (lo hi lo' hi' : Nat) (a b : Option Addr) (ca cb : Nat) (ps : List ByteArray) (hn : ps.length ≤ 1048576) (w : World) (ha : SlT w lo hi a ps) (hb : SlT w lo' hi' b ps) :
    Calls Tryd.prog 6 #[.slice a ps.length ca, .slice b ps.length cb] w fun e w' => e = .returned (.bool true) ∧ ∃ n, w' = w.drewN n := by
  have HA := Lib.hid ha
  have HB := Lib.hid hb
  clear ha hb
  go_enter Tryd.func6, Tryd.ntmps6
  go_wp2_with fail
  go_loopw [5] (fun i wr => ∃ k q : Nat, k ≤ ps.length ∧ i = .int .i64 k ∧ wr = w.drewN q) (fun i _ => ps.length - (intOf i).toNat)
  case atStart => exact ⟨0, 0, by omega, rfl, rfl⟩
  case round =>
    obtain ⟨k, q, hk, rfl, rfl⟩ := hrel
    by_cases hlt : k < ps.length
    · obtain ⟨b1, o1, rfl, _, _, hc1⟩ := HA.out (by omega)
      obtain ⟨b2, o2, rfl, _, _, hc2⟩ := HB.out (by omega)
      have c1 := hc1 k hlt
      have c2 := hc2 k hlt
      clear hc1 hc2
      have k0 : (0 : Int) ≤ (k : Int) := by omega
      have k1 : (k : Int) < (ps.length : Int) := by omega
      go_wp2_with fail
      go_quiet (fail)
      go_wp2_with fail
      go_roundw
      case rel => exact ⟨k + 1, q + nq, by omega, by go_num, by simp only [World.drewN_drewN]⟩
      case measure => simp [intOf]; omega
    · go_wp2_with fail
      go_ret
      exact ⟨rfl, _, rfl⟩
end Go.Proofs.YtkkijjgdjaedeaaDoor

/- Contracts: marks on a slice of numbers that a call made. -/
import Derived.Test.YtbmahankleijkaaFaI
import Derived.Test.YtbmahankleijkaaMark
import Derived.Test.YtbmahankleijkaaEq
import Derived.Test.YtbmahankleijkaaSz
namespace Go.Fl
theorem OwnC.far {w w' : World} {lo hi b : Nat} {cs : Array Value} {T : TypeId} (h : OwnC w b cs T) (hf : Far lo hi w w') (h1 : lo ≤ b) (h2 : b < hi) : OwnC w' b cs T := (hf b h1 h2).trans h
end Go.Fl
namespace Go.Proofs.Ytbmahankleijkaa
open Go.RowKit Go.Fl

theorem markNil (c : Nat) (k : Int) (w : World) : Calls Try.prog 19 #[.slice none 0 c, .int .i64 k] w fun e w' => e = .returned (.int .i64 k) ∧ w' = w := by
  go_enter Try.func19, Try.ntmps19
  go_wp2_with fail
  refine wp_loop_rounds 1 ?_
  rw [rounds_succ]
  go_wp2_with fail
  go_ret
  exact ⟨rfl, rfl⟩
theorem markOwn (lo hi : Nat) (ao : Option Addr) (c : Nat) (xs : List Int) (k : Int) (hn : xs.length ≤ 1048576) (h0 : 0 ≤ k) (h1 : k ≤ 1152921504606846976) (w : World) (h : OwnI w lo hi ao xs) :
    Calls Try.prog 19 #[.slice ao xs.length c, .int .i64 k] w fun e w' => e = .returned (.int .i64 (k + xs.length)) ∧ SlI w' lo hi ao (marks k xs.length) ∧ Kept lo hi w w' := by
  rcases h.at' with ⟨rfl, rfl⟩ | ⟨b, rfl, l1, l2, hr, hs⟩
  · refine (markNil c k w).mono ?_
    rintro e w' ⟨rfl, rfl⟩
    exact ⟨by simp, fun h => absurd h (Nat.not_lt_zero _), Kept.of_below (Below.refl _ _) _ _⟩
  · refine (markInt64S b xs.length c k hn h0 h1 w hr).mono ?_
    rintro e w' ⟨rfl, hs', ho⟩
    exact ⟨rfl, hs'.mono (by omega) (by omega), ho.kept fun c hc => by omega⟩
end Go.Proofs.Ytbmahankleijkaa

/- Equal outlines, by the law's own functions. -/
import Derived.Test.YtjapidajammkbaaOCx
import Derived.Test.YtjapidajammkbaaOTaken
namespace Go.Proofs.Ytjapidajammkbaa
open Go.RowKit Go.Fl

theorem quiet_of2 {P : Program} {f : FuncId} {args : Array Value} {w : World} {q n : Nat} {v : Value}
    (h : Calls P f args (w.drewN (q + n)) fun e w' => e = .returned v ∧ ∃ m, w' = (w.drewN (q + n)).drewN m) : Calls P f args (w.drewN (q + n)) fun e w'' => e = .returned v ∧ ∃ m, w'' = w.drewN (q + m) :=
  h.mono fun _ _ ⟨he, m, hm⟩ => ⟨he, n + m, by rw [hm, World.drewN_drewN, Nat.add_assoc]⟩

/-- .. loops of them -/
def okAll (ls : List (List Cx)) : Prop := ∀ i, i < ls.length → (lpAt ls i).length ≤ 1048576 ∧ (lpAt ls i).all okPt = true
end Go.Proofs.Ytjapidajammkbaa

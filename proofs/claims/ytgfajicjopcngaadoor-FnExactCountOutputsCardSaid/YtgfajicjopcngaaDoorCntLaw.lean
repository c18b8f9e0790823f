/- The law: both count alike. -/
import Derived.Test.YtgfajicjopcngaaDoorCntB
namespace Go.Proofs.YtgfajicjopcngaaDoor
open Go.RowKit Go.Fl

set_option maxHeartbeats 1000000 in
theorem lawC (s : ByteArray) (hs4 : s.size ≤ 9223372036854775807) (w : World) (mx : Int) (hm : w.cell? ⟨0, 0, none⟩ = some (.int .i64 mx)) :
    Calls Tryd.prog 3 #[.string s] w fun e w' => e = .returned (.bool true) ∧ Below w.heap.size w w' := by
  go_enter Tryd.func3, Tryd.ntmps3
  by_cases hsz : s.size ≤ 1048576
  · have hsz1 : ¬ (1048576 : Int) < (s.size : Int) := by omega
    cases hok : okTxt s
    · have ho : outs s = .tuple #[.int .i64 0, .int .i64 0, .bool false] := by rw [outs, hok]; rfl
      go_wp2_with (first | (go_at_call 4; refine (cntS s hsz _).mono ?_; rintro e w1 ⟨he1, hB1⟩; rw [ho] at he1; subst he1) | (go_at_call 5; refine (cntB s hsz _ mx (keep_cell hB1 hm)).mono ?_; rintro e w2 ⟨he2, hB2⟩; rw [ho] at he2; subst he2))
      go_ret
      exact ⟨rfl, hB1.trans (hB2.mono hB1.size)⟩
    · have ho : outs s = .tuple #[.int .i64 (badN (pieces s 10) (nl s)), .int .i64 ((nl s : Int) - badN (pieces s 10) (nl s)), .bool true] := by rw [outs, hok]; rfl
      go_wp2_with (first | (go_at_call 4; refine (cntS s hsz _).mono ?_; rintro e w1 ⟨he1, hB1⟩; rw [ho] at he1; subst he1) | (go_at_call 5; refine (cntB s hsz _ mx (keep_cell hB1 hm)).mono ?_; rintro e w2 ⟨he2, hB2⟩; rw [ho] at he2; subst he2))
      go_ret
      exact ⟨rfl, hB1.trans (hB2.mono hB1.size)⟩
  · have hsz1 : (1048576 : Int) < (s.size : Int) := by omega
    go_wp2_with fail
    go_ret
    exact ⟨rfl, Below.refl _ _⟩
end Go.Proofs.YtgfajicjopcngaaDoor

/- spec.l02GiveSpline. -/
import Derived.Test.YtlpgaekkhlinhaaGreatDoorRpU
import Derived.Test.YtlpgaekkhlinhaaGreatDoorRpV
import Derived.Test.YtlpgaekkhlinhaaGreatDoorRpK
namespace Go.Proofs.YtlpgaekkhlinhaaGreatDoor
open Go.RowKit Go.Fl

set_option maxHeartbeats 40000000 in
set_option maxRecDepth 100000 in
theorem l02Spline (b b1 b2 c1 c2 : Nat) (d : Int) (ks : List Nat) (ps : List Cx) (hk : ks.length ≤ 1048576) (hp : ps.length ≤ 1048576) (w : World)
    (e0 : w.cell? ⟨b, 0, none⟩ = some (.int .i64 d)) (e1 : w.cell? ⟨b, 1, none⟩ = some (.slice (some ⟨b1, 0, none⟩) ks.length c1)) (e2 : w.cell? ⟨b, 2, none⟩ = some (.slice (some ⟨b2, 0, none⟩) ps.length c2)) (h1 : RdK w b1 ks) (h2 : RdZ w b2 ps) :
    Calls Tryz.prog 86 #[.pointer (some ⟨b, 0, none⟩)] w fun e w' => e = .returned (.bool (okSpl d ks ps)) ∧ ∃ n, w' = w.drewN n := by
  by_cases hB : ∃ D, SplB d D ks ps
  · obtain ⟨D, hB⟩ := hB
    by_cases hE : SplE D ks ps.length
    · exact l02SplV b b1 b2 c1 c2 d ks ps hk hp w e0 e1 e2 h1 h2 D hB hE
    · exact l02SplU b b1 b2 c1 c2 d ks ps hk hp w e0 e1 e2 h1 h2 D hB hE
  · exact l02SplT b b1 b2 c1 c2 d ks ps hk hp w e0 e1 e2 h1 h2 fun D h => hB ⟨D, h⟩

set_option maxHeartbeats 2000000 in
set_option maxRecDepth 100000 in
theorem l02GiveSpline (b1 b2 c1 c2 : Nat) (d : Int) (ks : List Nat) (ps : List Cx) (hk : ks.length ≤ 1048576) (hp : ps.length ≤ 1048576) (w : World) (h1 : RdK w b1 ks) (h2 : RdZ w b2 ps) (l1 : b1 < w.heap.size) (l2 : b2 < w.heap.size) :
    Calls Tryz.prog 62 #[.agg #[.int .i64 d, .slice (some ⟨b1, 0, none⟩) ks.length c1, .slice (some ⟨b2, 0, none⟩) ps.length c2]] w fun e w' => (okSpl d ks ps = true → e = .returned (.tuple #[.agg #[.int .i64 d, .slice (some ⟨b1, 0, none⟩) ks.length c1, .slice (some ⟨b2, 0, none⟩) ps.length c2], .bool true])) ∧ (okSpl d ks ps = false → e = .returned (.tuple #[.agg #[.int .i64 0, .slice none 0 0, .slice none 0 0], .bool false])) ∧ Below w.heap.size w w' := by
  have hb0 : Below w.heap.size w ((w.alloc (.cells #[.int .i64 d, .slice (some ⟨b1, 0, none⟩) ks.length c1, .slice (some ⟨b2, 0, none⟩) ps.length c2] 39)).alloc (.cells #[.int .i64 0, .slice none 0 0, .slice none 0 0] 39)) := Below.alloc (Below.alloc (Below.refl _ w) (Nat.le_refl _) _) (by simp) _
  have A0 : OwnC ((w.alloc (.cells #[.int .i64 d, .slice (some ⟨b1, 0, none⟩) ks.length c1, .slice (some ⟨b2, 0, none⟩) ps.length c2] 39)).alloc (.cells #[.int .i64 0, .slice none 0 0, .slice none 0 0] 39)) w.heap.size #[.int .i64 d, .slice (some ⟨b1, 0, none⟩) ks.length c1, .slice (some ⟨b2, 0, none⟩) ps.length c2] 39 := (OwnC.new rfl).alloc _
  have HI := Lib.hid (l02Spline w.heap.size b1 b2 c1 c2 d ks ps hk hp ((w.alloc (.cells #[.int .i64 d, .slice (some ⟨b1, 0, none⟩) ks.length c1, .slice (some ⟨b2, 0, none⟩) ps.length c2] 39)).alloc (.cells #[.int .i64 0, .slice none 0 0, .slice none 0 0] 39)) A0.three'.1.1 A0.three'.1.2.1 A0.three'.1.2.2 (h1.below hb0 l1) (h2.below hb0 l2))
  have HB0 := Lib.hid hb0
  clear A0 h1 h2 hb0
  cases hok : okSpl d ks ps
  · rw [hok] at HI
    go_enter Tryz.func62, Tryz.ntmps62
    go_wp2_with (go_at_call 86; refine HI.out.mono ?_; rintro e w1 ⟨rfl, n, rfl⟩)
    refine bodyPost_ret (v := .tuple #[.agg #[.int .i64 0, .slice none 0 0, .slice none 0 0], .bool false]) (by simp [results, Tryz.results62, go_sem]) rfl (by simp; exact below_dr HB0.out n)
  · rw [hok] at HI
    go_enter Tryz.func62, Tryz.ntmps62
    go_wp2_with (go_at_call 86; refine HI.out.mono ?_; rintro e w1 ⟨rfl, n, rfl⟩)
    refine bodyPost_ret (v := .tuple #[.agg #[.int .i64 d, .slice (some ⟨b1, 0, none⟩) ks.length c1, .slice (some ⟨b2, 0, none⟩) ps.length c2], .bool true]) (by simp [results, Tryz.results62, go_sem]) rfl (by simp; exact below_dr (Below.alloc (Below.alloc (Below.refl _ w) (Nat.le_refl _) _) (by simp) _) n)
end Go.Proofs.YtlpgaekkhlinhaaGreatDoor

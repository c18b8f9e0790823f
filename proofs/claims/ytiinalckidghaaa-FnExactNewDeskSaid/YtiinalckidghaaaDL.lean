/- Equal curves, splines, sheets; marks on them and whether they are held, by the law's own functions. -/
import Derived.Test.YtiinalckidghaaaDE
namespace Go.Fl
open Go.RowKit
theorem OwnC1.rd {w : World} {g : Nat} {l : List Cx} (h : OwnC1 w g l) : SlC w 0 w.heap.size (some ⟨g, 0, none⟩) l := fun _ => ⟨g, rfl, Nat.zero_le _, h.1.lt, h.2⟩
theorem OwnF1.rd {w : World} {g : Nat} {l : List Nat} (h : OwnF1 w g l) : ∀ i, i < l.length → w.cell? ⟨g, 0 + i, none⟩ = some (.float .f32 (l.getD i 0)) := fun i hi => by rw [Nat.zero_add]; exact h.2 i hi
end Go.Fl
namespace Go.Proofs.Ytiinalckidghaaa
open Go.RowKit Go.Fl
set_option maxHeartbeats 1000000 in
theorem eqCur (g1 c1 h1 d1 g2 c2 h2 d2 : Nat) (pts : List Cx) (ws : List Nat) (hn : pts.length ≤ 1048576) (hm : ws.length ≤ 1048576) (hok : pts.all okPt = true) (hfin : ws.all (fun x => fin (can .f32 x)) = true) (w : World)
    (a1 : OwnC1 w g1 pts) (a2 : OwnF1 w h1 ws) (b1 : OwnC1 w g2 pts) (b2 : OwnF1 w h2 ws) :
    Calls Try.prog 15 #[.agg #[.slice (some ⟨g1, 0, none⟩) pts.length c1, .slice (some ⟨h1, 0, none⟩) ws.length d1], .agg #[.slice (some ⟨g2, 0, none⟩) pts.length c2, .slice (some ⟨h2, 0, none⟩) ws.length d2]] w fun e w' => e = .returned (.bool true) ∧ Below w.heap.size w w' := by
  have hb : Below w.heap.size w ((w.alloc (.cells #[.slice (some ⟨g1, 0, none⟩) pts.length c1, .slice (some ⟨h1, 0, none⟩) ws.length d1] 25)).alloc (.cells #[.slice (some ⟨g2, 0, none⟩) pts.length c2, .slice (some ⟨h2, 0, none⟩) ws.length d2] 25)) := by
    show Below _ _ _
    (repeat (first | exact Below.refl _ _ | assumption | refine below_dr ?_ _ | refine Below.alloc ?_ (by first | omega | (simp; done) | (simp; omega)) _ | refine Below.setCell ?_ (by first | omega | (simp; done) | (simp; omega)) _ | refine Below.trans ?_ (Below.mono (by assumption) (by first | omega | (simp; done) | (simp; omega)))))
  have HA := Lib.hid (eqC1 0 _ 0 _ (some ⟨g1, 0, none⟩) (some ⟨g2, 0, none⟩) c1 c2 pts hn hok _ (a1.below hb a1.1.lt).rd (b1.below hb b1.1.lt).rd)
  have HB := Lib.hid (fun q => eqF h1 0 h2 0 d1 d2 ws hm hfin (((w.alloc (.cells #[.slice (some ⟨g1, 0, none⟩) pts.length c1, .slice (some ⟨h1, 0, none⟩) ws.length d1] 25)).alloc (.cells #[.slice (some ⟨g2, 0, none⟩) pts.length c2, .slice (some ⟨h2, 0, none⟩) ws.length d2] 25)).drewN q) (a2.below hb a2.1.lt).rd (b2.below hb b2.1.lt).rd)
  have HBL := Lib.hid hb
  clear a1 a2 b1 b2 hb
  go_enter Try.func15, Try.ntmps15
  go_wp2_with (first | (go_at_call 18; refine HA.out.mono ?_; rintro e w1 ⟨rfl, q1, rfl⟩) | (go_at_call 35; refine (HB.out _).mono ?_; rintro e w2 ⟨rfl, q2, rfl⟩))
  go_ret
  exact ⟨rfl, by (repeat (first | exact Below.refl _ _ | assumption | refine below_dr ?_ _ | refine Below.alloc ?_ (by first | omega | (simp; done) | (simp; omega)) _ | refine Below.setCell ?_ (by first | omega | (simp; done) | (simp; omega)) _ | refine Below.trans ?_ (Below.mono (by assumption) (by first | omega | (simp; done) | (simp; omega)))))⟩
set_option maxHeartbeats 1000000 in
theorem eqSpn (d : Int) (g1 c1 h1 d1 g2 c2 h2 d2 : Nat) (ks : List Nat) (pts : List Cx) (hn : pts.length ≤ 1048576) (hm : ks.length ≤ 1048576) (hok : pts.all okPt = true) (hfin : ks.all (fun x => fin (can .f32 x)) = true) (w : World)
    (a1 : OwnF1 w g1 ks) (a2 : OwnC1 w h1 pts) (b1 : OwnF1 w g2 ks) (b2 : OwnC1 w h2 pts) :
    Calls Try.prog 16 #[.agg #[.int .i64 d, .slice (some ⟨g1, 0, none⟩) ks.length c1, .slice (some ⟨h1, 0, none⟩) pts.length d1], .agg #[.int .i64 d, .slice (some ⟨g2, 0, none⟩) ks.length c2, .slice (some ⟨h2, 0, none⟩) pts.length d2]] w fun e w' => e = .returned (.bool true) ∧ Below w.heap.size w w' := by
  have hb : Below w.heap.size w ((w.alloc (.cells #[.int .i64 d, .slice (some ⟨g1, 0, none⟩) ks.length c1, .slice (some ⟨h1, 0, none⟩) pts.length d1] 27)).alloc (.cells #[.int .i64 d, .slice (some ⟨g2, 0, none⟩) ks.length c2, .slice (some ⟨h2, 0, none⟩) pts.length d2] 27)) := by
    show Below _ _ _
    (repeat (first | exact Below.refl _ _ | assumption | refine below_dr ?_ _ | refine Below.alloc ?_ (by first | omega | (simp; done) | (simp; omega)) _ | refine Below.setCell ?_ (by first | omega | (simp; done) | (simp; omega)) _ | refine Below.trans ?_ (Below.mono (by assumption) (by first | omega | (simp; done) | (simp; omega)))))
  have HA := Lib.hid (fun q => eqF g1 0 g2 0 c1 c2 ks hm hfin (((w.alloc (.cells #[.int .i64 d, .slice (some ⟨g1, 0, none⟩) ks.length c1, .slice (some ⟨h1, 0, none⟩) pts.length d1] 27)).alloc (.cells #[.int .i64 d, .slice (some ⟨g2, 0, none⟩) ks.length c2, .slice (some ⟨h2, 0, none⟩) pts.length d2] 27)).drewN q) (a1.below hb a1.1.lt).rd (b1.below hb b1.1.lt).rd)
  have HB := Lib.hid (fun q => eqC1 0 _ 0 _ (some ⟨h1, 0, none⟩) (some ⟨h2, 0, none⟩) d1 d2 pts hn hok (((w.alloc (.cells #[.int .i64 d, .slice (some ⟨g1, 0, none⟩) ks.length c1, .slice (some ⟨h1, 0, none⟩) pts.length d1] 27)).alloc (.cells #[.int .i64 d, .slice (some ⟨g2, 0, none⟩) ks.length c2, .slice (some ⟨h2, 0, none⟩) pts.length d2] 27)).drewN q) (a2.below hb a2.1.lt).rd (b2.below hb b2.1.lt).rd)
  have HBL := Lib.hid hb
  clear a1 a2 b1 b2 hb
  go_enter Try.func16, Try.ntmps16
  go_wp2_with (first | (go_at_call 35; refine (HA.out 0).mono ?_; rintro e w1 ⟨rfl, q1, rfl⟩) | (go_at_call 18; refine (HB.out _).mono ?_; rintro e w2 ⟨rfl, q2, rfl⟩))
  go_ret
  exact ⟨rfl, by (repeat (first | exact Below.refl _ _ | assumption | refine below_dr ?_ _ | refine Below.alloc ?_ (by first | omega | (simp; done) | (simp; omega)) _ | refine Below.setCell ?_ (by first | omega | (simp; done) | (simp; omega)) _ | refine Below.trans ?_ (Below.mono (by assumption) (by first | omega | (simp; done) | (simp; omega)))))⟩
set_option maxHeartbeats 1000000 in
theorem eqSht (x y : Int) (g1 c1 g2 c2 : Nat) (ps : List Sp) (hn : ps.length ≤ 1048576) (hc : ∀ p, p ∈ ps → can .f32 p.1 = p.1 ∧ can .f32 p.2.1 = p.2.1 ∧ can .f32 p.2.2 = p.2.2) (w : World)
    (a1 : OwnP1 w g1 ps) (b1 : OwnP1 w g2 ps) :
    Calls Try.prog 17 #[.agg #[.int .i64 x, .int .i64 y, .slice (some ⟨g1, 0, none⟩) ps.length c1], .agg #[.int .i64 x, .int .i64 y, .slice (some ⟨g2, 0, none⟩) ps.length c2]] w fun e w' => e = .returned (.bool true) ∧ Below w.heap.size w w' := by
  have hb : Below w.heap.size w ((w.alloc (.cells #[.int .i64 x, .int .i64 y, .slice (some ⟨g1, 0, none⟩) ps.length c1] 30)).alloc (.cells #[.int .i64 x, .int .i64 y, .slice (some ⟨g2, 0, none⟩) ps.length c2] 30)) := by
    show Below _ _ _
    (repeat (first | exact Below.refl _ _ | assumption | refine below_dr ?_ _ | refine Below.alloc ?_ (by first | omega | (simp; done) | (simp; omega)) _ | refine Below.setCell ?_ (by first | omega | (simp; done) | (simp; omega)) _ | refine Below.trans ?_ (Below.mono (by assumption) (by first | omega | (simp; done) | (simp; omega)))))
  have l1 := a1.1.lt
  have l2 := b1.1.lt
  have HA := Lib.hid (fun q => eqSpotS g1 (g1 + 1) g2 (g2 + 1) (some ⟨g1, 0, none⟩) (some ⟨g2, 0, none⟩) c1 c2 ps hn (((w.alloc (.cells #[.int .i64 x, .int .i64 y, .slice (some ⟨g1, 0, none⟩) ps.length c1] 30)).alloc (.cells #[.int .i64 x, .int .i64 y, .slice (some ⟨g2, 0, none⟩) ps.length c2] 30)).drewN q) ((a1.below hb l1).slP hc) ((b1.below hb l2).slP hc) (by simp; omega) (by simp; omega))
  have HBL := Lib.hid hb
  clear a1 b1 hb
  go_enter Try.func17, Try.ntmps17
  go_wp2_with (first | (go_at_call 36; refine (HA.out 0).mono ?_; rintro e w1 ⟨rfl, hb1⟩; have HB1 := Lib.hid hb1; clear hb1))
  go_ret
  exact ⟨rfl, HBL.out.trans (HB1.out.mono (by simp; omega))⟩
end Go.Proofs.Ytiinalckidghaaa

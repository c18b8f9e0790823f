/- spec.l02Is, l02Give, l08ReadCurve, ReadCurve. -/
import Derived.Test.YtlpgaekkhlinhaaGreatDoorRdC
import Derived.Test.YtlpgaekkhlinhaaGreatDoorVCur
namespace Go.Fl
open Go.RowKit
/-- block g is the walk's own and holds the numbers xs -/
def OwnF1 (w : World) (g : Nat) (xs : List Nat) : Prop := Room w g xs.length ∧ ∀ i, i < xs.length → w.cell? ⟨g, i, none⟩ = some (.float .f32 (xs.getD i 0))
theorem OwnF1.far {w w' : World} {lo hi g : Nat} {l : List Nat} (h : OwnF1 w g l) (hf : Far lo hi w w') (h1 : lo ≤ g) (h2 : g < hi) : OwnF1 w' g l :=
  ⟨h.1.far hf h1 h2, fun i hi => (hf.cell h1 h2).trans (h.2 i hi)⟩
theorem OwnF1.row {w : World} {T : TypeId} {b cap n : Nat} {l : List Nat} (h : ORow w T 1 b cap n (l.map (Value.float .f32))) (hn : n = l.length) : OwnF1 w b l :=
  ⟨by have := h.room; rw [Nat.mul_one, hn] at this; exact this, fun i hi => by
    rw [h.cell i (by omega), List.getElem?_map, List.getElem?_eq_getElem hi, List.getD_eq_getElem?_getD, List.getElem?_eq_getElem hi]
    rfl⟩
theorem OwnF1.slF {w : World} {g c n : Nat} {xs : List Nat} (h : OwnF1 w g xs) (hn : n = xs.length) (hm : xs.length ≤ 1048576) : SlF w (.slice (some ⟨g, 0, none⟩) n c) xs := by
  subst hn
  exact .inr ⟨g, 0, c, rfl, by omega, fun i hi => by rw [Nat.zero_add]; exact h.2 i hi⟩
theorem OwnC1.below {w w' : World} {B g : Nat} {l : List Cx} (h : OwnC1 w g l) (hb : Below B w w') (hg : g < B) : OwnC1 w' g l := h.far (Far.below hb (Nat.le_refl B)) (Nat.zero_le _) hg
theorem OwnF1.below {w w' : World} {B g : Nat} {l : List Nat} (h : OwnF1 w g l) (hb : Below B w w') (hg : g < B) : OwnF1 w' g l := h.far (Far.below hb (Nat.le_refl B)) (Nat.zero_le _) hg
theorem OwnC1.rd {w : World} {g : Nat} {l : List Cx} (h : OwnC1 w g l) : SlC w 0 w.heap.size (some ⟨g, 0, none⟩) l := fun _ => ⟨g, rfl, Nat.zero_le _, h.1.lt, h.2⟩
theorem OwnF1.rd {w : World} {g : Nat} {l : List Nat} (h : OwnF1 w g l) : ∀ i, i < l.length → w.cell? ⟨g, 0 + i, none⟩ = some (.float .f32 (l.getD i 0)) := fun i hi => by rw [Nat.zero_add]; exact h.2 i hi
/-- the curve that a text tells -/
def RdCurve (s : List UInt8) (zs : List Cx) (xs : List Nat) : Prop := ∃ p q, cutL 59 s = [p, q] ∧ Reads hex2 Own2 p zs ∧ Reads hex1 Own1 q xs ∧ okCurve zs xs = true
theorem RdCurve.unique {s : List UInt8} {zs ys : List Cx} {xs us : List Nat} (h : RdCurve s zs xs) (k : RdCurve s ys us) : zs = ys ∧ xs = us := by
  obtain ⟨p, q, h1, h2, h3, _⟩ := h
  obtain ⟨p', q', k1, k2, k3, _⟩ := k
  rw [h1] at k1
  simp only [List.cons.injEq, and_true] at k1
  obtain ⟨rfl, rfl⟩ := k1
  exact ⟨h2.unique texts2 k2, h3.unique texts1 k3⟩
theorem okCurve_parts {pts : List Cx} {ws : List Nat} (h : okCurve pts ws = true) : 2 ≤ pts.length ∧ pts.length ≤ 8 ∧ ws.length = pts.length ∧ pts.all okPt = true ∧ (ws.all fun x => above (can .f32 x)) = true := by
  unfold okCurve at h
  simp only [Bool.and_eq_true, decide_eq_true_eq] at h
  exact ⟨h.1.1.1.1, h.1.1.1.2, h.1.1.2, h.1.2, h.2⟩
/-- what the reading of a curve returns -/
structure RetC (s : List UInt8) (w0 : World) (e : Ending) (w' : World) : Prop where
  yes : ∀ zs xs, RdCurve s zs xs → ∃ b1 c1 b2 c2, e = .returned (.tuple #[.agg #[.slice (some ⟨b1, 0, none⟩) zs.length c1, .slice (some ⟨b2, 0, none⟩) xs.length c2], .bool true]) ∧ OwnC1 w' b1 zs ∧ OwnF1 w' b2 xs ∧ w0.heap.size ≤ b1 ∧ w0.heap.size ≤ b2 ∧ b1 ≠ b2
  no : (∀ zs xs, ¬ RdCurve s zs xs) → e = .returned (.tuple #[.agg #[.slice none 0 0, .slice none 0 0], .bool false])
  below : Below w0.heap.size w0 w'
theorem all_above_at {ws : List Nat} {k : Nat} (h : k < ws.length) : (ws.take (k + 1)).all (fun x => above (can .f32 x)) = ((ws.take k).all (fun x => above (can .f32 x)) && above (can .f32 (ws.getD k 0))) := by
  rw [List.take_succ_eq_append_getElem h, List.all_append]
  simp [h]
theorem all_pt_at {ps : List Cx} {k : Nat} (h : k < ps.length) : (ps.take (k + 1)).all okPt = ((ps.take k).all okPt && okPt (cAt ps k)) := by
  rw [List.take_succ_eq_append_getElem h, List.all_append]
  simp [cAt, h]
theorem all_take_false {α : Type} {p : α → Bool} {l : List α} {k : Nat} (h : (l.take k).all p = false) : l.all p = false := by
  rw [List.all_eq_false] at h ⊢
  obtain ⟨x, hx, hp⟩ := h
  exact ⟨x, List.mem_of_mem_take hx, hp⟩
end Go.Fl
namespace Go.Proofs.YtlpgaekkhlinhaaGreatDoor
open Go.RowKit Go.Fl

set_option maxHeartbeats 2000000 in
set_option maxRecDepth 100000 in
theorem l02Is (lo hi b : Nat) (ao bo : Option Addr) (ca cb : Nat) (pts : List Cx) (ws : List Nat) (hn : pts.length ≤ 1048576) (hm : ws.length ≤ 1048576) (w : World) (c0 : w.cell? ⟨b, 0, none⟩ = some (.slice ao pts.length ca)) (c1 : w.cell? ⟨b, 1, none⟩ = some (.slice bo ws.length cb)) (hp : SlC w lo hi ao pts) (hw : SlF w (.slice bo ws.length cb) ws) :
    Calls Tryz.prog 71 #[.pointer (some ⟨b, 0, none⟩)] w fun e w' => e = .returned (.bool (okCurve pts ws)) ∧ ∃ n, w' = w.drewN n := by
  have HP := Lib.hid hp
  have HW := Lib.hid hw
  have HO := Lib.hid (show okCurve pts ws = (decide (2 ≤ pts.length) && decide (pts.length ≤ 8) && decide (ws.length = pts.length) && pts.all okPt && ws.all fun x => above (can .f32 x)) from rfl)
  clear hp hw
  by_cases h2 : pts.length < 2
  · have HNO := Lib.hid (show okCurve pts ws = false by rw [HO.out, decide_eq_false (by omega)]; rfl)
    have g : (pts.length : Int) < 2 := by omega
    go_enter Tryz.func71, Tryz.ntmps71
    go_wp2_with fail
    go_ret
    exact ⟨ret_bool HNO.out.symm, 0, rfl⟩
  have g2 : ¬ (pts.length : Int) < 2 := by omega
  by_cases h8 : 8 < pts.length
  · have HNO := Lib.hid (show okCurve pts ws = false by rw [HO.out, decide_eq_false (show ¬ pts.length ≤ 8 by omega), Bool.and_false]; rfl)
    have g : (8 : Int) < (pts.length : Int) := by omega
    go_enter Tryz.func71, Tryz.ntmps71
    go_wp2_with fail
    go_ret
    exact ⟨ret_bool HNO.out.symm, 0, rfl⟩
  have g8 : ¬ (8 : Int) < (pts.length : Int) := by omega
  by_cases hl : ws.length = pts.length
  rotate_left
  · have HNO := Lib.hid (show okCurve pts ws = false by rw [HO.out, decide_eq_false hl, Bool.and_false]; rfl)
    have g : ((ws.length : Int) != (pts.length : Int)) = true := by simp; omega
    clear hl
    go_enter Tryz.func71, Tryz.ntmps71
    go_wp2_with fail
    go_ret
    exact ⟨ret_bool HNO.out.symm, 0, rfl⟩
  have HY := Lib.hid (show okCurve pts ws = (pts.all okPt && ws.all fun x => above (can .f32 x)) by rw [HO.out, decide_eq_true (show 2 ≤ pts.length by omega), decide_eq_true (show pts.length ≤ 8 by omega), decide_eq_true hl]; simp)
  have g : ((ws.length : Int) != (pts.length : Int)) = false := by simp [hl]
  obtain ⟨b1, rfl, _, _, hc⟩ := HP.out (by omega)
  rcases HW.out with ⟨he, hx⟩ | ⟨b2, o2, cap2, he, hmm, hd⟩
  · exfalso; subst hx; simp at hl; omega
  obtain ⟨rfl, rfl⟩ : bo = some ⟨b2, o2, none⟩ ∧ cb = cap2 := by cases he; exact ⟨rfl, rfl⟩
  have HC := Lib.hid hc
  have HD := Lib.hid hd
  have HL := Lib.hid hl
  clear hc hd he hl HP HW
  go_enter Tryz.func71, Tryz.ntmps71
  go_wp2_with fail
  go_loopw [4] (fun i wr => ∃ k q : Nat, k ≤ pts.length ∧ i = .int .i64 k ∧ wr = w.drewN q ∧ Hid ((pts.take k).all okPt = true) ∧ Hid ((ws.take k).all (fun x => above (can .f32 x)) = true)) (fun i _ => pts.length - (intOf i).toNat)
  case atStart => exact ⟨0, 0, by omega, rfl, rfl, rfl, rfl⟩
  case round =>
    obtain ⟨k, q, hk, rfl, rfl, HA, HB⟩ := hrel
    by_cases hlt : k < pts.length
    · have e1 := HC.out k hlt
      have e2 := HD.out k (by have := HL.out; omega)
      have hkw : k < ws.length := by have := HL.out; omega
      have HTA := Lib.hid (all_pt_at hlt)
      have HTB := Lib.hid (all_above_at hkw)
      have k0 : (0 : Int) ≤ (k : Int) := by omega
      have k1 : (k : Int) < (pts.length : Int) := by omega
      have k2 : (k : Int) < (ws.length : Int) := by omega
      generalize hz : cAt pts k = z at *
      generalize hx : ws.getD k 0 = x at *
      have HZ := Lib.hid hz
      have HX := Lib.hid hx
      clear hz hx hkw
      cases h1 : okPt z
      · have hf : (pts.take (k + 1)).all okPt = false := by rw [HTA.out, h1, Bool.and_false]
        have HNO := Lib.hid (show okCurve pts ws = false by rw [HY.out, all_take_false hf]; rfl)
        go_wp2_with (go_at_call 96; refine (l01CFinite z _).mono ?_; rintro e w1 ⟨rfl, n1, rfl⟩; rw [h1])
        go_ret
        exact ⟨ret_bool HNO.out.symm, (by (try simp only [World.drewN_drewN]); exact ⟨_, rfl⟩)⟩
      cases h3 : above (can .f32 x)
      · have hf : (ws.take (k + 1)).all (fun x => above (can .f32 x)) = false := by rw [HTB.out, h3, Bool.and_false]
        have HNO := Lib.hid (show okCurve pts ws = false by rw [HY.out, all_take_false hf, Bool.and_false])
        go_wp2_with (first | (go_at_call 96; refine (l01CFinite z _).mono ?_; rintro e w1 ⟨rfl, n1, rfl⟩; rw [h1]) | (go_at_call 97; refine (l02Above x _).mono ?_; rintro e w2 ⟨rfl, n2, rfl⟩; rw [h3]))
        go_ret
        exact ⟨ret_bool HNO.out.symm, (by (try simp only [World.drewN_drewN]); exact ⟨_, rfl⟩)⟩
      · go_wp2_with (first | (go_at_call 96; refine (l01CFinite z _).mono ?_; rintro e w1 ⟨rfl, n1, rfl⟩; rw [h1]) | (go_at_call 97; refine (l02Above x _).mono ?_; rintro e w2 ⟨rfl, n2, rfl⟩; rw [h3]))
        go_roundw
        case rel => exact ⟨k + 1, q + n1 + n2, by omega, by go_num, by simp only [World.drewN_drewN], by rw [HTA.out, HA.out, h1]; rfl, by rw [HTB.out, HB.out, h3]; rfl⟩
        case measure => simp [intOf]; omega
    · have hkk : k = pts.length := by omega
      have ha := HA.out
      have hb := HB.out
      rw [hkk, List.take_length] at ha
      rw [hkk, ← HL.out, List.take_length] at hb
      have HOK := Lib.hid (show okCurve pts ws = true by rw [HY.out, ha, hb]; rfl)
      go_wp2_with fail
      go_ret
      exact ⟨ret_bool HOK.out.symm, _, rfl⟩
end Go.Proofs.YtlpgaekkhlinhaaGreatDoor

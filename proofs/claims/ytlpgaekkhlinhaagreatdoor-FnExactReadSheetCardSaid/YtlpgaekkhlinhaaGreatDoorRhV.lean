/- Whether a sheet is valid, by both. (Written by mkrhv.py.) -/
import Derived.Test.YtlpgaekkhlinhaaGreatDoorRcE
import Derived.Deep.RegionLaw
import Derived.StillTailTactics
import Derived.BigQuiet
namespace Go.Proofs.YtlpgaekkhlinhaaGreatDoor
open Go.RowKit Go.Fl
theorem l00In (x lo hi : Int) (w : World) : Calls Tryz.prog 84 #[.int .i64 x, .int .i64 lo, .int .i64 hi] w fun e w' => e = .returned (.bool (inB x lo hi)) ∧ w' = w := by
  by_cases h1 : lo ≤ x
  all_goals by_cases h2 : x ≤ hi
  all_goals
    go_enter Tryz.func84, Tryz.ntmps84
    go_wp2_with fail
    go_ret
    exact ⟨ret_bool (by simp [inB, h1, h2]), rfl⟩
set_option maxHeartbeats 1000000 in
theorem l04Spot (x y z : Nat) (w : World) : Calls Tryz.prog 142 #[spV x y z] w fun e w' => e = .returned (.bool (finSp (can .f32 x, can .f32 y, can .f32 z))) ∧ Below w.heap.size w w' := by
  unfold spV
  cases h1 : fin (can .f32 x)
  all_goals cases h2 : fin (can .f32 y)
  all_goals
    go_enter Tryz.func142, Tryz.ntmps142
    go_wp2_with (go_at_call 129; refine (l01Finite _ _).mono ?_; rintro e w' ⟨rfl, n, rfl⟩)
    all_goals
      go_ret
      exact ⟨ret_bool (by simp [finSp, *]), by (repeat (first | exact Below.refl _ _ | assumption | refine below_dr ?_ _ | refine Below.alloc ?_ (by first | omega | (simp; done) | (simp; omega)) _ | refine Below.setCell ?_ (by first | omega | (simp; done) | (simp; omega)) _ | refine Below.trans ?_ (Below.mono (by assumption) (by first | omega | (simp; done) | (simp; omega)))))⟩
set_option maxHeartbeats 1000000 in
theorem l04Spots (lo hi : Nat) (ao : Option Addr) (c : Nat) (ps : List Sp) (hn : ps.length ≤ 1048576) (w : World) (hs : SlP w lo hi ao ps) (hh : hi ≤ w.heap.size) :
    Calls Tryz.prog 113 #[.slice ao ps.length c] w fun e w' => e = .returned (.bool (ps.all finSp)) ∧ Below w.heap.size w w' := by
  have HS := Lib.hid hs
  clear hs
  go_enter Tryz.func113, Tryz.ntmps113
  go_wp2_with fail
  go_loopw [3] (fun i wr => ∃ k : Nat, k ≤ ps.length ∧ i = .int .i64 k ∧ Hid (Below w.heap.size w wr) ∧ Hid ((ps.take k).all finSp = true)) (fun i _ => ps.length - (intOf i).toNat)
  case atStart => exact ⟨0, by omega, rfl, Below.refl _ _, rfl⟩
  case round =>
    obtain ⟨k, hk, rfl, HW, HA⟩ := hrel
    by_cases hlt : k < ps.length
    · obtain ⟨b1, o1, rfl, _, q1, hc1⟩ := HS.out.far (Far.below HW.out hh) (by omega)
      obtain ⟨x, y, z, c1, c2, c3, f1, f2, f3⟩ := hc1 k hlt
      have hp : (can .f32 x, can .f32 y, can .f32 z) = pAt ps k := by
        rw [show can .f32 x = _ from f1, show can .f32 y = _ from f2, show can .f32 z = _ from f3]
      have HP := Lib.hid hp
      clear hc1 f1 f2 f3 hp
      have k0 : (0 : Int) ≤ (k : Int) := by omega
      have k1 : (k : Int) < (ps.length : Int) := by omega
      cases hfin : finSp (pAt ps k)
      all_goals
        go_wp2_with (go_at_call 142; refine (l04Spot x y z _).mono ?_; rintro e w3 ⟨rfl, hb3⟩; rw [HP.out, hfin])
      · go_ret
        refine ⟨ret_bool (Eq.symm ?_), HW.out.trans (hb3.mono HW.out.size)⟩
        rw [List.all_eq_false]
        exact ⟨pAt ps k, by simp [pAt, hlt], by rw [hfin]; decide⟩
      · go_roundw
        case rel => 
          refine ⟨k + 1, by omega, by go_num, HW.out.trans (hb3.mono HW.out.size), ?_⟩
          show _ = true
          rw [List.take_succ_eq_append_getElem hlt, List.all_append, HA.out]
          have : ps[k] = pAt ps k := by simp [pAt, hlt]
          simp [this, hfin]
        case measure => simp [intOf]; omega
    · go_wp2_with fail
      go_ret
      refine ⟨ret_bool ?_, HW.out⟩
      have := HA.out
      rw [List.take_of_length_le (by omega)] at this
      exact this.symm
end Go.Proofs.YtlpgaekkhlinhaaGreatDoor
namespace Go.Fl
open Go.RowKit
theorem quiet_of0 {P : Program} {f : FuncId} {args : Array Value} {w : World} {n : Nat} {v : Value} (h : ∀ w, Calls P f args w fun e w' => e = .returned v ∧ w' = w) :
    Calls P f args (w.drewN n) fun e w'' => e = .returned v ∧ ∃ m, w'' = w.drewN m := (h _).mono fun _ _ ⟨he, hw⟩ => ⟨he, n, hw⟩
/-- an equation of integers in a walk whose answer is known -/
theorem wpList_eqi {P : Program} {ops rest : List Oper} {o : Oper} {a : Act} {w : World} {Q : Exit → Act → World → Prop} {t yt : TypeId} {x y : Operand} {u v : Int} {k : IntKind} {r : Bool}
    (hw : Region.wanted o (yielded ops.toArray a.tmps) = true)
    (ho : o.op = .binOp .eql t x y yt) (hx : a.eval x = .int k u) (hy : a.eval y = .int k v) (hr : (u == v) = r)
    (h : wpList P ops.toArray Q rest (a.put o.dst (.bool r)) w) : wpList P ops.toArray Q (o :: rest) a w :=
  wpList_step fun K hK => by
    rw [if_pos hw]
    have e : (execOp a.eval o).run P w = .ok (.value (.bool r)) w := by
      unfold execOp
      rw [ho]
      simp only [hx, hy]
      subst hr
      simp [eqGuard, binOp, Op.intCmp]
    unfold Oper.wp
    rw [e]
    exact hK _ _ h
/-- a valid sheet -/
def okSh (a l : Int) (ps : List Sp) : Bool := (inB a 2 6 && inB l 2 6) && decide ((ps.length : Int) = a * l) && ps.all finSp
theorem okSh_parts {a l : Int} {ps : List Sp} (h : okSh a l ps = true) : (2 ≤ a ∧ a ≤ 6 ∧ 2 ≤ l ∧ l ≤ 6) ∧ ps.length ≤ 36 ∧ ps.all finSp = true := by
  unfold okSh at h
  simp only [Bool.and_eq_true, decide_eq_true_eq, inB] at h
  obtain ⟨⟨⟨⟨h1, h2⟩, h3, h4⟩, h5⟩, h6⟩ := h
  refine ⟨⟨h1, h2, h3, h4⟩, ?_, h6⟩
  have : a * l ≤ 6 * 6 := Int.mul_le_mul h2 h4 (by omega) (by omega)
  omega
theorem finSp_parts {p : Sp} (h : finSp p = true) : fin p.1 = true ∧ fin p.2.1 = true ∧ fin p.2.2 = true := by
  unfold finSp at h
  simp only [Bool.and_eq_true] at h
  exact ⟨h.1.1, h.1.2, h.2⟩
theorem all_at {ps : List Sp} (h : ps.all finSp = true) {i : Nat} (hi : i < ps.length) : finSp (pAt ps i) = true := by
  have : pAt ps i = ps[i] := by simp [pAt, hi]
  rw [this]; exact List.all_eq_true.1 h _ (List.getElem_mem hi)
end Go.Fl
namespace Go.Proofs.YtlpgaekkhlinhaaGreatDoor
open Go.RowKit Go.Fl

set_option maxHeartbeats 1000000 in
theorem l04Counts (a l : Int) (w : World) : Calls Tryz.prog 112 #[.int .i64 a, .int .i64 l] w fun e w' => e = .returned (.bool (inB a 2 6 && inB l 2 6)) ∧ w' = w := by
  cases h1 : inB a 2 6
  all_goals cases h2 : inB l 2 6
  all_goals
    go_enter Tryz.func112, Tryz.ntmps112
    go_wp2_with (go_at_call 84; first | (with_reducible refine (l00In a 2 6 _).mono ?_; rintro e w' ⟨rfl, hw⟩; rw [hw, h1]; clear hw) | (with_reducible refine (l00In l 2 6 _).mono ?_; rintro e w' ⟨rfl, hw⟩; rw [hw, h2]; clear hw))
    go_ret
    exact ⟨rfl, rfl⟩
set_option maxHeartbeats 2000000 in
theorem l04Is (lo hi b : Nat) (a l : Int) (ao : Option Addr) (c : Nat) (ps : List Sp) (hn : ps.length ≤ 1048576) (w : World) (c0 : w.cell? ⟨b, 0, none⟩ = some (.int .i64 a)) (c1 : w.cell? ⟨b, 1, none⟩ = some (.int .i64 l)) (c2 : w.cell? ⟨b, 2, none⟩ = some (.slice ao ps.length c))
    (hs : SlP w lo hi ao ps) (hh : hi ≤ w.heap.size) :
    Calls Tryz.prog 81 #[.pointer (some ⟨b, 0, none⟩)] w fun e w' => e = .returned (.bool (okSh a l ps)) ∧ Below w.heap.size w w' := by
  have HS := Lib.hid hs
  clear hs
  have HQ : Hid (∀ w : World, Calls Tryz.prog 112 #[.int .i64 a, .int .i64 l] w fun e w' => e = .returned (.bool (inB a 2 6 && inB l 2 6)) ∧ w' = w) := Lib.hid (l04Counts a l)
  cases h1 : (inB a 2 6 && inB l 2 6)
  all_goals rw [h1] at HQ
  · have hr : okSh a l ps = false := by simp [okSh, h1]
    have HR := Lib.hid hr
    clear hr
    go_enter Tryz.func81, Tryz.ntmps81
    go_wp2_with fail
    go_quiet ((go_at_call 112; refine quiet_of0 HQ.out))
    go_wp2_with fail
    go_ret
    exact ⟨ret_bool HR.out.symm, by (repeat (first | exact Below.refl _ _ | assumption | refine below_dr ?_ _ | refine Below.alloc ?_ (by first | omega | (simp; done) | (simp; omega)) _ | refine Below.setCell ?_ (by first | omega | (simp; done) | (simp; omega)) _ | refine Below.trans ?_ (Below.mono (by assumption) (by first | omega | (simp; done) | (simp; omega)))))⟩
  have hab : 2 ≤ a ∧ a ≤ 6 ∧ 2 ≤ l ∧ l ≤ 6 := by
    simp [inB] at h1
    omega
  have hp : 0 ≤ a * l ∧ a * l ≤ 36 := by
    obtain ⟨q1, q2, q3, q4⟩ := hab
    exact ⟨Int.mul_nonneg (by omega) (by omega), Int.le_trans (Int.mul_le_mul q2 q4 (by omega) (by omega)) (by omega)⟩
  have hw : Hid (IntKind.i64.wrap (a * l) = a * l) := Lib.hid (by rw [IntKind.wrap_i64]; omega)
  by_cases h2 : (ps.length : Int) = a * l
  · have h2' : Hid (((ps.length : Int) == IntKind.i64.wrap (a * l)) = true) := Lib.hid (by rw [hw.out]; simp [h2])
    have H2 := Lib.hid h2
    clear h2
    have hr : okSh a l ps = ps.all finSp := by simp [okSh, h1, H2.out]
    have HR := Lib.hid hr
    clear hr
    cases h3 : ps.all finSp
    all_goals
      go_enter Tryz.func81, Tryz.ntmps81
      go_wp2_with fail
      have h2'' := h2'.out
      go_region_held3 (fun w' => w'.cell? ⟨b, 0, none⟩ = some (.int .i64 a) ∧ w'.cell? ⟨b, 1, none⟩ = some (.int .i64 l) ∧ w'.cell? ⟨b, 2, none⟩ = some (.slice ao ps.length c)) (first | go_keep | (exact ⟨c0, c1, c2⟩) | (refine ⟨keep_cell (w := w.drew) (by assumption) c0, keep_cell (w := w.drew) (by assumption) c1, keep_cell (w := w.drew) (by assumption) c2⟩))
        (first
        | (go_at_call 112; refine (HQ.out _).mono ?_; rintro e w3 ⟨rfl, hw⟩; rw [hw]; clear hw)
        | (go_at_call 113; refine (l04Spots lo hi ao c ps hn _ (show SlP w.drew lo hi ao ps from HS.out) hh).mono ?_; rintro e w3 ⟨rfl, hb3⟩; rw [h3]))
      all_goals
        go_wp2_with fail
        go_ret
        exact ⟨ret_bool (HR.out.trans h3).symm, by (repeat (first | exact Below.refl _ _ | assumption | refine below_dr ?_ _ | refine Below.alloc ?_ (by first | omega | (simp; done) | (simp; omega)) _ | refine Below.setCell ?_ (by first | omega | (simp; done) | (simp; omega)) _ | refine Below.trans ?_ (Below.mono (by assumption) (by first | omega | (simp; done) | (simp; omega)))))⟩
  · have hr : okSh a l ps = false := by simp [okSh, h2]
    have HR := Lib.hid hr
    have h2' : ((ps.length : Int) == IntKind.i64.wrap (a * l)) = false := by rw [hw.out]; simp [h2]
    clear hr h2
    go_enter Tryz.func81, Tryz.ntmps81
    go_wp2_with fail
    go_quiet ((go_at_call 112; refine quiet_of0 HQ.out))
    go_wp2_with fail
    go_ret
    exact ⟨ret_bool HR.out.symm, by (repeat (first | exact Below.refl _ _ | assumption | refine below_dr ?_ _ | refine Below.alloc ?_ (by first | omega | (simp; done) | (simp; omega)) _ | refine Below.setCell ?_ (by first | omega | (simp; done) | (simp; omega)) _ | refine Below.trans ?_ (Below.mono (by assumption) (by first | omega | (simp; done) | (simp; omega)))))⟩

theorem isAcross (n : Int) (w : World) : Calls Tryz.prog 82 #[.int .i64 n] w fun e w' => e = .returned (.bool (inB n 2 6)) ∧ w' = w := by
  go_enter Tryz.func82, Tryz.ntmps82
  go_wp2_with (go_at_call 92; refine (within n 2 6 _).mono ?_; rintro e w' ⟨rfl, rfl⟩)
  go_ret
  exact ⟨rfl, rfl⟩
set_option maxHeartbeats 2000000 in
theorem validSheet (lo hi : Nat) (a l : Int) (ao : Option Addr) (c : Nat) (ps : List Sp) (hn : ps.length ≤ 1048576) (w : World) (hs : SlP w lo hi ao ps) (hh : hi ≤ w.heap.size) :
    Calls Tryz.prog 59 #[.agg #[.int .i64 a, .int .i64 l, .slice ao ps.length c]] w fun e w' => e = .returned (.bool (okSh a l ps)) ∧ Below w.heap.size w w' := by
  have HS := Lib.hid hs
  clear hs
  cases h1 : inB a 2 6
  · have hr : okSh a l ps = false := by simp [okSh, h1]
    have HR := Lib.hid hr
    clear hr
    go_enter Tryz.func59, Tryz.ntmps59
    go_wp2_with (go_at_call 82; refine (isAcross a _).mono ?_; rintro e w' ⟨rfl, hw⟩; rw [hw, h1]; clear hw)
    go_ret
    exact ⟨ret_bool HR.out.symm, by (repeat (first | exact Below.refl _ _ | assumption | refine below_dr ?_ _ | refine Below.alloc ?_ (by first | omega | (simp; done) | (simp; omega)) _ | refine Below.setCell ?_ (by first | omega | (simp; done) | (simp; omega)) _ | refine Below.trans ?_ (Below.mono (by assumption) (by first | omega | (simp; done) | (simp; omega)))))⟩
  cases h2 : inB l 2 6
  · have hr : okSh a l ps = false := by simp [okSh, h2]
    have HR := Lib.hid hr
    clear hr
    go_enter Tryz.func59, Tryz.ntmps59
    go_wp2_with (go_at_call 82; first | (with_reducible refine (isAcross a _).mono ?_; rintro e w' ⟨rfl, hw⟩; rw [hw, h1]; clear hw) | (with_reducible refine (isAcross l _).mono ?_; rintro e w' ⟨rfl, hw⟩; rw [hw, h2]; clear hw))
    go_ret
    exact ⟨ret_bool HR.out.symm, by (repeat (first | exact Below.refl _ _ | assumption | refine below_dr ?_ _ | refine Below.alloc ?_ (by first | omega | (simp; done) | (simp; omega)) _ | refine Below.setCell ?_ (by first | omega | (simp; done) | (simp; omega)) _ | refine Below.trans ?_ (Below.mono (by assumption) (by first | omega | (simp; done) | (simp; omega)))))⟩
  have hab : 2 ≤ a ∧ a ≤ 6 ∧ 2 ≤ l ∧ l ≤ 6 := by
    simp [inB] at h1 h2
    omega
  have hp : 0 ≤ a * l ∧ a * l ≤ 36 := by
    obtain ⟨q1, q2, q3, q4⟩ := hab
    exact ⟨Int.mul_nonneg (by omega) (by omega), Int.le_trans (Int.mul_le_mul q2 q4 (by omega) (by omega)) (by omega)⟩
  have hw : Hid (IntKind.i64.wrap (a * l) = a * l) := Lib.hid (by rw [IntKind.wrap_i64]; omega)
  by_cases h3 : (ps.length : Int) = a * l
  · have hr : okSh a l ps = ps.all finSp := by simp [okSh, h1, h2, h3]
    have HR := Lib.hid hr
    have h3' : ((ps.length : Int) == a * l) = true := by simp [h3]
    clear hr h3
    cases h4 : ps.all finSp
    all_goals
      go_enter Tryz.func59, Tryz.ntmps59
      go_wp2_with (first | (go_at_call 82; first | (with_reducible refine (isAcross a _).mono ?_; rintro e w' ⟨rfl, hw⟩; rw [hw, h1]; clear hw) | (with_reducible refine (isAcross l _).mono ?_; rintro e w' ⟨rfl, hw⟩; rw [hw, h2]; clear hw)) | (go_at_call 83; refine (areSpots lo hi ao c ps hn _ (HS.out.far ((Far.refl _ _ w).alloc _ hh)) (by simp; omega)).mono ?_; rintro e w3 ⟨rfl, hb3⟩; rw [h4]))
      go_ret
      exact ⟨ret_bool (HR.out.trans h4).symm, by (repeat (first | exact Below.refl _ _ | assumption | refine below_dr ?_ _ | refine Below.alloc ?_ (by first | omega | (simp; done) | (simp; omega)) _ | refine Below.setCell ?_ (by first | omega | (simp; done) | (simp; omega)) _ | refine Below.trans ?_ (Below.mono (by assumption) (by first | omega | (simp; done) | (simp; omega)))))⟩
  · have hr : okSh a l ps = false := by simp [okSh, h3]
    have HR := Lib.hid hr
    have h3' : ((ps.length : Int) == a * l) = false := by simp [h3]
    clear hr h3
    go_enter Tryz.func59, Tryz.ntmps59
    go_wp2_with (go_at_call 82; first | (with_reducible refine (isAcross a _).mono ?_; rintro e w' ⟨rfl, hw⟩; rw [hw, h1]; clear hw) | (with_reducible refine (isAcross l _).mono ?_; rintro e w' ⟨rfl, hw⟩; rw [hw, h2]; clear hw))
    go_ret
    exact ⟨ret_bool HR.out.symm, by (repeat (first | exact Below.refl _ _ | assumption | refine below_dr ?_ _ | refine Below.alloc ?_ (by first | omega | (simp; done) | (simp; omega)) _ | refine Below.setCell ?_ (by first | omega | (simp; done) | (simp; omega)) _ | refine Below.trans ?_ (Below.mono (by assumption) (by first | omega | (simp; done) | (simp; omega)))))⟩
end Go.Proofs.YtlpgaekkhlinhaaGreatDoor

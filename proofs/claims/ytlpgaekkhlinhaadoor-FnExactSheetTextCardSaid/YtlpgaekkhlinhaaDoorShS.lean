/- spec.l04Counts, l04Is, l08Sheet, SheetText. -/
import Derived.Test.YtlpgaekkhlinhaaDoorTxtS
import Derived.Test.YtlpgaekkhlinhaaDoorSheet0
import Derived.Test.YtlpgaekkhlinhaaDoorRow2
import Derived.Deep.RegionLaw
import Derived.StillTailTactics
namespace Go.Fl
open Go.RowKit
theorem fin_nan {x : Nat} (h : fin x = true) : nanB .f32 x = false := by
  cases hn : nanB .f32 x
  · rfl
  · have e : fsub x x = qnan .f32 := by
      show (floatBits .sub .f32 x x).getD (qnan .f32) = _
      rw [floatBits_nan_left hn]; rfl
    unfold fin at h
    rw [e] at h
    exact absurd h (by decide +kernel)
theorem f32_fin {b x : Nat} (h : F32 b x) (hf : fin x = true) : b = x := by
  have h1 := fin_nan hf
  have h2 : nanB .f32 b = false := by rw [← nanB_can, show can .f32 b = x from h]; exact h1
  rw [← show can .f32 b = x from h, can_of_not h2]
theorem quiet_of0 {P : Program} {f : FuncId} {args : Array Value} {w : World} {n : Nat} {v : Value} (h : ∀ w, Calls P f args w fun e w' => e = .returned v ∧ w' = w) :
    Calls P f args (w.drewN n) fun e w'' => e = .returned v ∧ ∃ m, w'' = w.drewN m := (h _).mono fun _ _ ⟨he, hw⟩ => ⟨he, n, hw⟩
/-- an equation of integers in a walk whose answer is known -/
theorem wpList_eqi {P : Program} {ops rest : List Oper} {o : Oper} {a : Act} {w : World} {Q : Exit → Act → World → Prop} {t yt : TypeId} {x y : Operand} {u v : Int} {k : IntKind} {r : Bool}
    (hw : Region.wanted o (yielded ops.toArray a.tmps) = true)
    (ho : o.op = .binOp .eql t x y yt) (hx : a.eval x = .int k u) (hy : a.eval y = .int k v) (hr : (u == v) = r)
    (h : wpList P ops.toArray Q rest (a.put o.dst (.bool r)) w) : wpList P ops.toArray Q (o :: rest) a w :=
  wpList_step fun K hK => by
    rw [if_pos hw]
    have e : (execOp a.eval o).run P w = .ok (.value (.bool r)) w := by
      unfold execOp
      rw [ho]
      simp only [hx, hy]
      subst hr
      simp [eqGuard, binOp, Op.intCmp]
    unfold Oper.wp
    rw [e]
    exact hK _ _ h
/-- a valid sheet -/
def okSh (a l : Int) (ps : List Sp) : Bool := (inB a 2 6 && inB l 2 6) && decide ((ps.length : Int) = a * l) && ps.all finSp
theorem okSh_parts {a l : Int} {ps : List Sp} (h : okSh a l ps = true) : (2 ≤ a ∧ a ≤ 6 ∧ 2 ≤ l ∧ l ≤ 6) ∧ ps.length ≤ 36 ∧ ps.all finSp = true := by
  unfold okSh at h
  simp only [Bool.and_eq_true, decide_eq_true_eq, inB] at h
  obtain ⟨⟨⟨⟨h1, h2⟩, h3, h4⟩, h5⟩, h6⟩ := h
  refine ⟨⟨h1, h2, h3, h4⟩, ?_, h6⟩
  have : a * l ≤ 6 * 6 := Int.mul_le_mul h2 h4 (by omega) (by omega)
  omega
/-- the numbers of spots -/
def flatP (ps : List Sp) : List Nat := ps.flatMap fun p => [p.1, p.2.1, p.2.2]
theorem flatP_len (ps : List Sp) : (flatP ps).length = 3 * ps.length := by
  induction ps with
  | nil => rfl
  | cons p ps ih => simp only [flatP, List.flatMap_cons, List.length_append, List.length_cons, List.length_nil] at *; omega
theorem flatP_take {ps : List Sp} {k : Nat} (h : k < ps.length) : flatP (ps.take (k + 1)) = flatP (ps.take k) ++ [(pAt ps k).1, (pAt ps k).2.1, (pAt ps k).2.2] := by
  have e : pAt ps k = ps[k] := by simp [pAt, h]
  rw [flatP, List.take_succ_eq_append_getElem h, List.flatMap_append, e]
  simp [flatP]
/-- the text of a sheet -/
def shT (a l : Int) (ps : List Sp) : List UInt8 := intT [a, l] ++ [59] ++ numT (flatP ps)
/-- the numbers of spots are no greater than 32 bits -/
def Sm (ps : List Sp) : Prop := ∀ i, i < ps.length → (pAt ps i).1 < 4294967296 ∧ (pAt ps i).2.1 < 4294967296 ∧ (pAt ps i).2.2 < 4294967296
theorem finSp_parts {p : Sp} (h : finSp p = true) : fin p.1 = true ∧ fin p.2.1 = true ∧ fin p.2.2 = true := by
  unfold finSp at h
  simp only [Bool.and_eq_true] at h
  exact ⟨h.1.1, h.1.2, h.2⟩
theorem all_at {ps : List Sp} (h : ps.all finSp = true) {i : Nat} (hi : i < ps.length) : finSp (pAt ps i) = true := by
  have : pAt ps i = ps[i] := by simp [pAt, hi]
  rw [this]; exact List.all_eq_true.1 h _ (List.getElem_mem hi)
/-- a row of the numbers of finite spots -/
theorem ORow.nums {w : World} {e : TypeId} {b cap n : Nat} {ps : List Sp} (h : ORow w e 1 b cap n ((flatP ps).map (Value.float .f32))) (hf : ps.all finSp = true) (hs : Sm ps) : SlX w b (b + 1) (some ⟨b, 0, none⟩) (flatP ps) := fun _ =>
  ⟨b, 0, rfl, Nat.le_refl _, Nat.lt_succ_self _, fun i hi => by
    have hl := h.1
    rw [List.length_map] at hl
    refine ⟨(flatP ps)[i], ?_, ?_, ?_⟩
    · rw [Nat.zero_add, h.cell i (by omega)]
      simp [hi]
    · have hm := List.getElem_mem hi
      simp only [flatP, List.mem_flatMap] at hm
      obtain ⟨p, hp, hx⟩ := hm
      obtain ⟨j, hj, rfl⟩ := List.getElem_of_mem hp
      have := hs j hj
      rw [show pAt ps j = ps[j] by simp [pAt, hj]] at this
      simp only [List.mem_cons, List.not_mem_nil, or_false] at hx
      rcases hx with hx | hx | hx <;> (show (flatP ps)[i] < _) <;> simp only [flatP] <;> rw [hx] <;> simp [this]
    · have hm := List.getElem_mem hi
      simp only [flatP, List.mem_flatMap] at hm
      obtain ⟨p, hp, hx⟩ := hm
      have hfp := finSp_parts (List.all_eq_true.1 hf p hp)
      have e : nAt (flatP ps) i = (flatP ps)[i] := by simp [nAt, hi]
      rw [e]
      refine can_of_not (fin_nan ?_)
      simp only [List.mem_cons, List.not_mem_nil, or_false] at hx
      rcases hx with hx | hx | hx <;> (show fin (flatP ps)[i] = true) <;> simp only [flatP] <;> rw [hx] <;> simp [hfp]⟩
end Go.Fl
namespace Go.Proofs.YtlpgaekkhlinhaaDoor
open Go.RowKit Go.Fl

set_option maxHeartbeats 1000000 in
theorem l04Counts (a l : Int) (w : World) : Calls Tryd.prog 18 #[.int .i64 a, .int .i64 l] w fun e w' => e = .returned (.bool (inB a 2 6 && inB l 2 6)) ∧ w' = w := by
  cases h1 : inB a 2 6
  all_goals cases h2 : inB l 2 6
  all_goals
    go_enter Tryd.func18, Tryd.ntmps18
    go_wp2_with (go_at_call 30; first | (with_reducible refine (l00In a 2 6 _).mono ?_; rintro e w' ⟨rfl, hw⟩; rw [hw, h1]; clear hw) | (with_reducible refine (l00In l 2 6 _).mono ?_; rintro e w' ⟨rfl, hw⟩; rw [hw, h2]; clear hw))
    go_ret
    exact ⟨rfl, rfl⟩

set_option maxHeartbeats 2000000 in
theorem l04Is (lo hi b : Nat) (a l : Int) (ao : Option Addr) (c : Nat) (ps : List Sp) (hn : ps.length ≤ 1048576) (w : World) (c0 : w.cell? ⟨b, 0, none⟩ = some (.int .i64 a)) (c1 : w.cell? ⟨b, 1, none⟩ = some (.int .i64 l)) (c2 : w.cell? ⟨b, 2, none⟩ = some (.slice ao ps.length c))
    (hs : SlP w lo hi ao ps) (hh : hi ≤ w.heap.size) :
    Calls Tryd.prog 10 #[.pointer (some ⟨b, 0, none⟩)] w fun e w' => e = .returned (.bool (okSh a l ps)) ∧ Below w.heap.size w w' := by
  have HS := Lib.hid hs
  clear hs
  have HQ : Hid (∀ w : World, Calls Tryd.prog 18 #[.int .i64 a, .int .i64 l] w fun e w' => e = .returned (.bool (inB a 2 6 && inB l 2 6)) ∧ w' = w) := Lib.hid (l04Counts a l)
  cases h1 : (inB a 2 6 && inB l 2 6)
  all_goals rw [h1] at HQ
  · have hr : okSh a l ps = false := by simp [okSh, h1]
    have HR := Lib.hid hr
    clear hr
    go_enter Tryd.func10, Tryd.ntmps10
    go_wp2_with fail
    go_quiet ((go_at_call 18; refine quiet_of0 HQ.out))
    go_wp2_with fail
    go_ret
    exact ⟨ret_bool HR.out.symm, by (repeat (first | exact Below.refl _ _ | assumption | refine below_dr ?_ _ | refine Below.alloc ?_ (by first | omega | (simp; done) | (simp; omega)) _ | refine Below.setCell ?_ (by first | omega | (simp; done) | (simp; omega)) _ | refine Below.trans ?_ (Below.mono (by assumption) (by first | omega | (simp; done) | (simp; omega)))))⟩
  have hab : 2 ≤ a ∧ a ≤ 6 ∧ 2 ≤ l ∧ l ≤ 6 := by
    simp [inB] at h1
    omega
  have hp : 0 ≤ a * l ∧ a * l ≤ 36 := by
    obtain ⟨q1, q2, q3, q4⟩ := hab
    exact ⟨Int.mul_nonneg (by omega) (by omega), Int.le_trans (Int.mul_le_mul q2 q4 (by omega) (by omega)) (by omega)⟩
  have hw : Hid (IntKind.i64.wrap (a * l) = a * l) := Lib.hid (by rw [IntKind.wrap_i64]; omega)
  by_cases h2 : (ps.length : Int) = a * l
  · have h2' : Hid (((ps.length : Int) == IntKind.i64.wrap (a * l)) = true) := Lib.hid (by rw [hw.out]; simp [h2])
    have H2 := Lib.hid h2
    clear h2
    have hr : okSh a l ps = ps.all finSp := by simp [okSh, h1, H2.out]
    have HR := Lib.hid hr
    clear hr
    cases h3 : ps.all finSp
    all_goals
      go_enter Tryd.func10, Tryd.ntmps10
      go_wp2_with fail
      have h2'' := h2'.out
      go_region_held3 (fun w' => w'.cell? ⟨b, 0, none⟩ = some (.int .i64 a) ∧ w'.cell? ⟨b, 1, none⟩ = some (.int .i64 l) ∧ w'.cell? ⟨b, 2, none⟩ = some (.slice ao ps.length c)) (first | go_keep | (exact ⟨c0, c1, c2⟩) | (refine ⟨keep_cell (w := w.drew) (by assumption) c0, keep_cell (w := w.drew) (by assumption) c1, keep_cell (w := w.drew) (by assumption) c2⟩))
        (first
        | (go_at_call 18; refine (HQ.out _).mono ?_; rintro e w3 ⟨rfl, hw⟩; rw [hw]; clear hw)
        | (go_at_call 19; refine (l04Spots lo hi ao c ps hn _ (show SlP w.drew lo hi ao ps from HS.out) hh).mono ?_; rintro e w3 ⟨rfl, hb3⟩; rw [h3]))
      all_goals
        go_wp2_with fail
        go_ret
        exact ⟨ret_bool (HR.out.trans h3).symm, by (repeat (first | exact Below.refl _ _ | assumption | refine below_dr ?_ _ | refine Below.alloc ?_ (by first | omega | (simp; done) | (simp; omega)) _ | refine Below.setCell ?_ (by first | omega | (simp; done) | (simp; omega)) _ | refine Below.trans ?_ (Below.mono (by assumption) (by first | omega | (simp; done) | (simp; omega)))))⟩
  · have hr : okSh a l ps = false := by simp [okSh, h2]
    have HR := Lib.hid hr
    have h2' : ((ps.length : Int) == IntKind.i64.wrap (a * l)) = false := by rw [hw.out]; simp [h2]
    clear hr h2
    go_enter Tryd.func10, Tryd.ntmps10
    go_wp2_with fail
    go_quiet ((go_at_call 18; refine quiet_of0 HQ.out))
    go_wp2_with fail
    go_ret
    exact ⟨ret_bool HR.out.symm, by (repeat (first | exact Below.refl _ _ | assumption | refine below_dr ?_ _ | refine Below.alloc ?_ (by first | omega | (simp; done) | (simp; omega)) _ | refine Below.setCell ?_ (by first | omega | (simp; done) | (simp; omega)) _ | refine Below.trans ?_ (Below.mono (by assumption) (by first | omega | (simp; done) | (simp; omega)))))⟩
end Go.Proofs.YtlpgaekkhlinhaaDoor

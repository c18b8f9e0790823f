/- impl.ReadDecimal: a decimal text read, the program's. -/
import Derived.Test.YtlpgaekkhlinhaaGreatDoorRdI
import Derived.Test.YtlpgaekkhlinhaaGreatDoorHexB
import Derived.Test.YtlpgaekkhlinhaaGreatDoorDecB
import Derived.Lib.AtoiErrMem
namespace Go.Proofs.YtlpgaekkhlinhaaGreatDoor
open Go.RowKit Go.Fl

def Eg (w : World) : Prop := ∃ ev, w.cell? ⟨3, 0, none⟩ = some ev ∧ (ev = .nilIface ∨ ∃ te pe, ev = .iface te pe)
theorem Eg.on {w w' : World} (h : Eg w) (hb : Below w.heap.size w w') : Eg w' := by
  obtain ⟨ev, h1, h2⟩ := h
  exact ⟨ev, keep_cell hb h1, h2⟩
theorem within15 (x : Int) (w : World) : Calls Tryz.prog 92 #[.int .i64 x, .int .i64 (-1000000000000000), .int .i64 1000000000000000] w fun e w' => e = .returned (.bool (decide (-1000000000000000 ≤ x ∧ x ≤ 1000000000000000))) ∧ w' = w := by
  by_cases h1 : -1000000000000000 ≤ x
  all_goals by_cases h2 : x ≤ 1000000000000000
  all_goals
    go_enter Tryz.func92, Tryz.ntmps92
    go_wp2_with fail
    go_ret
    exact ⟨ret_bool (by simp [h1, h2]), rfl⟩
theorem isValue15 (x : Int) (w : World) : Calls Tryz.prog 65 #[.int .i64 x] w fun e w' => e = .returned (.bool (decide (-1000000000000000 ≤ x ∧ x ≤ 1000000000000000))) ∧ w' = w := by
  have HW := Lib.hid (within15 x)
  generalize decide (-1000000000000000 ≤ x ∧ x ≤ 1000000000000000) = b at HW ⊢
  go_enter Tryz.func65, Tryz.ntmps65
  go_wp2_with (go_at_call 92; refine (HW.out _).mono ?_; rintro e w1 ⟨rfl, rfl⟩)
  go_ret
  exact ⟨rfl, rfl⟩

/-- the library's reading: what it returns -/
theorem parse64 (s : ByteArray) (hs : s.size ≤ 1048576) (w : World) (he : Er w) (hg : Eg w) :
    Calls Tryz.prog 64 #[.string s, .int .i64 10, .int .i64 64] w fun e w' => (∃ v : Int, Lib.parseIntB 64 s.data.toList = .ok v ∧ e = .returned (.tuple #[.int .i64 v, .nilIface]) ∨ (∀ n, ¬ RdInt s.data.toList n) ∧ ∃ t a, e = .returned (.tuple #[.int .i64 v, .iface t a])) ∧ Below w.heap.size w w' := by
  cases h : Lib.parseIntB 64 s.data.toList with
  | ok v =>
    refine (Tryz.strconv_ParseInt_10_at64_ok s (by omega) v h w).mono ?_
    rintro e w1 ⟨rfl, hw⟩
    refine ⟨⟨v, .inl ⟨rfl, rfl⟩⟩, ?_⟩
    rcases hw with rfl | ⟨t, rfl⟩
    · exact Below.refl _ _
    · exact Lib.bytesWorld_below _ _ _
  | «syntax» =>
    obtain ⟨ev, h1, h2⟩ := he
    refine (Tryz.strconv_ParseInt_10_at64_syntax s (by omega) h ev w h1 h2).mono ?_
    rintro e w1 ⟨N, rfl, _, _, hb⟩
    refine ⟨⟨0, .inr ⟨fun n k => ?_, _, _, rfl⟩⟩, hb⟩
    rw [k.2.2, itoa_parse n k.1 k.2.1] at h
    cases h
  | range =>
    obtain ⟨ev, h1, h2⟩ := hg
    refine (Tryz.strconv_ParseInt_10_at64_range s (by omega) h ev w h1 h2).mono ?_
    rintro e w1 ⟨N, rfl, _, _, hb⟩
    refine ⟨⟨_, .inr ⟨fun n k => ?_, _, _, rfl⟩⟩, hb⟩
    rw [k.2.2, itoa_parse n k.1 k.2.1] at h
    cases h

set_option maxHeartbeats 1000000 in
set_option maxRecDepth 100000 in
theorem readDecimal (s : ByteArray) (hs : s.size ≤ 1048576) (w : World) (he : Er w) (hg : Eg w) (ht : Tab w) : Calls Tryz.prog 41 #[.string s] w (RetI s.data.toList w) := by
  have HP := Lib.hid (parse64 s hs w he hg)
  have HT := Lib.hid ht
  clear he hg ht
  go_enter Tryz.func41, Tryz.ntmps41
  go_wp2_with fail
  refine HP.out.mono ?_
  rintro e w1 ⟨⟨v, ⟨hv, rfl⟩ | ⟨hno, t, a, rfl⟩⟩, hb1⟩
  rotate_left
  · have HNO := Lib.hid hno
    clear hno
    go_wp2_with fail
    go_ret2
    exact RetI.none HNO.out hb1
  have HX : Hid (∀ n, RdInt s.data.toList n → n = v) := Lib.hid fun n h => by
    rw [h.2.2, itoa_parse n h.1 h.2.1] at hv
    cases hv; rfl
  have hvb := Lib.parseIntB_bounds hv
  clear hv
  by_cases hr : -1000000000000000 ≤ v ∧ v ≤ 1000000000000000
  · have HI := Lib.hid (isValue15 v)
    rw [decide_eq_true hr] at HI
    have HDc := Lib.hid (decimal v (by omega) (by omega) w1 (HT.out.on hb1))
    by_cases heq : s.data.toList = Lib.itoa v
    · have HY := Lib.hid (show RdInt s.data.toList v from ⟨hr.1, hr.2, heq⟩)
      have hb : (Lib.itoa v == s.toList) = true := by rw [ByteArray.toList_eq, heq]; exact beq_self_eq_true _
      clear heq hr hvb
      go_wp2_with (first | (go_at_call 65; refine (HI.out _).mono ?_; rintro e w2 ⟨rfl, rfl⟩) | (go_at_call 66; refine HDc.out.mono ?_; rintro e w3 ⟨rfl, hb3⟩))
      go_ret2
      exact RetI.some HY.out (hb1.trans (hb3.mono hb1.size))
    · have HNO : Hid (∀ n, ¬ RdInt s.data.toList n) := Lib.hid fun n h => heq (by rw [← HX.out n h]; exact h.2.2)
      have hb : (Lib.itoa v == s.toList) = false := by rw [ByteArray.toList_eq]; exact beq_eq_false_iff_ne.2 (fun h => heq h.symm)
      clear heq hr hvb
      go_wp2_with (first | (go_at_call 65; refine (HI.out _).mono ?_; rintro e w2 ⟨rfl, rfl⟩) | (go_at_call 66; refine HDc.out.mono ?_; rintro e w3 ⟨rfl, hb3⟩))
      go_ret2
      exact RetI.none HNO.out (hb1.trans (hb3.mono hb1.size))
  · have HI := Lib.hid (isValue15 v)
    rw [decide_eq_false hr] at HI
    have HNO : Hid (∀ n, ¬ RdInt s.data.toList n) := Lib.hid fun n h => hr (by rw [← HX.out n h]; exact ⟨h.1, h.2.1⟩)
    clear hr hvb
    go_wp2_with (go_at_call 65; refine (HI.out _).mono ?_; rintro e w2 ⟨rfl, rfl⟩)
    go_ret2
    exact RetI.none HNO.out hb1
end Go.Proofs.YtlpgaekkhlinhaaGreatDoor

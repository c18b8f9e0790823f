/- impl.ValidSheet, ListText, spotNumbers, SheetText. -/
import Derived.Test.YtlpgaekkhlinhaaDoorShT
import Derived.Test.YtlpgaekkhlinhaaDoorTxtB
namespace Go.Fl
open Go.RowKit
/-- the decimal texts of numbers -/
def intS (xs : List Int) : List ByteArray := xs.map fun x => ⟨(Lib.itoa x).toArray⟩
theorem intS_text (xs : List Int) : textL (bytesL (intS xs)) = intT xs := by
  simp [bytesL, intS, intT, List.map_map, Function.comp_def]
theorem intS_len (xs : List Int) : (intS xs).length = xs.length := by simp [intS]
theorem intS_take {xs : List Int} {k : Nat} (h : k < xs.length) : intS (xs.take (k + 1)) = intS (xs.take k) ++ [⟨(Lib.itoa (iAt xs k)).toArray⟩] := by
  rw [intS, List.take_succ_eq_append_getElem h, List.map_append]
  simp [intS, iAt, h]
theorem intS_size (xs : List Int) (hx : ∀ i, i < xs.length → 0 ≤ iAt xs i ∧ iAt xs i < 100) (i : Nat) (hi : i < (intS xs).length) : (sAt (intS xs) i).size ≤ 64 := by
  rw [sAt_get hi]
  have hi' := hi
  rw [intS_len] at hi'
  have h := hx i hi'
  have e : iAt xs i = xs[i] := by simp [iAt, hi']
  rw [e] at h
  simp only [intS, List.getElem_map]
  show (Lib.itoa xs[i]).length ≤ 64
  have := (itoa_len h.1 (by omega)).2
  omega
end Go.Fl
namespace Go.Proofs.YtlpgaekkhlinhaaDoor
open Go.RowKit Go.Fl

theorem isAcross (n : Int) (w : World) : Calls Tryd.prog 23 #[.int .i64 n] w fun e w' => e = .returned (.bool (inB n 2 6)) ∧ w' = w := by
  go_enter Tryd.func23, Tryd.ntmps23
  go_wp2_with (go_at_call 34; refine (within n 2 6 _).mono ?_; rintro e w' ⟨rfl, rfl⟩)
  go_ret
  exact ⟨rfl, rfl⟩

set_option maxHeartbeats 2000000 in
theorem validSheet (lo hi : Nat) (a l : Int) (ao : Option Addr) (c : Nat) (ps : List Sp) (hn : ps.length ≤ 1048576) (w : World) (hs : SlP w lo hi ao ps) (hh : hi ≤ w.heap.size) :
    Calls Tryd.prog 13 #[.agg #[.int .i64 a, .int .i64 l, .slice ao ps.length c]] w fun e w' => e = .returned (.bool (okSh a l ps)) ∧ Below w.heap.size w w' := by
  have HS := Lib.hid hs
  clear hs
  cases h1 : inB a 2 6
  · have hr : okSh a l ps = false := by simp [okSh, h1]
    have HR := Lib.hid hr
    clear hr
    go_enter Tryd.func13, Tryd.ntmps13
    go_wp2_with (go_at_call 23; refine (isAcross a _).mono ?_; rintro e w' ⟨rfl, hw⟩; rw [hw, h1]; clear hw)
    go_ret
    exact ⟨ret_bool HR.out.symm, by (repeat (first | exact Below.refl _ _ | assumption | refine below_dr ?_ _ | refine Below.alloc ?_ (by first | omega | (simp; done) | (simp; omega)) _ | refine Below.setCell ?_ (by first | omega | (simp; done) | (simp; omega)) _ | refine Below.trans ?_ (Below.mono (by assumption) (by first | omega | (simp; done) | (simp; omega)))))⟩
  cases h2 : inB l 2 6
  · have hr : okSh a l ps = false := by simp [okSh, h2]
    have HR := Lib.hid hr
    clear hr
    go_enter Tryd.func13, Tryd.ntmps13
    go_wp2_with (go_at_call 23; first | (with_reducible refine (isAcross a _).mono ?_; rintro e w' ⟨rfl, hw⟩; rw [hw, h1]; clear hw) | (with_reducible refine (isAcross l _).mono ?_; rintro e w' ⟨rfl, hw⟩; rw [hw, h2]; clear hw))
    go_ret
    exact ⟨ret_bool HR.out.symm, by (repeat (first | exact Below.refl _ _ | assumption | refine below_dr ?_ _ | refine Below.alloc ?_ (by first | omega | (simp; done) | (simp; omega)) _ | refine Below.setCell ?_ (by first | omega | (simp; done) | (simp; omega)) _ | refine Below.trans ?_ (Below.mono (by assumption) (by first | omega | (simp; done) | (simp; omega)))))⟩
  have hab : 2 ≤ a ∧ a ≤ 6 ∧ 2 ≤ l ∧ l ≤ 6 := by
    simp [inB] at h1 h2
    omega
  have hp : 0 ≤ a * l ∧ a * l ≤ 36 := by
    obtain ⟨q1, q2, q3, q4⟩ := hab
    exact ⟨Int.mul_nonneg (by omega) (by omega), Int.le_trans (Int.mul_le_mul q2 q4 (by omega) (by omega)) (by omega)⟩
  have hw : Hid (IntKind.i64.wrap (a * l) = a * l) := Lib.hid (by rw [IntKind.wrap_i64]; omega)
  by_cases h3 : (ps.length : Int) = a * l
  · have hr : okSh a l ps = ps.all finSp := by simp [okSh, h1, h2, h3]
    have HR := Lib.hid hr
    have h3' : ((ps.length : Int) == a * l) = true := by simp [h3]
    clear hr h3
    cases h4 : ps.all finSp
    all_goals
      go_enter Tryd.func13, Tryd.ntmps13
      go_wp2_with (first | (go_at_call 23; first | (with_reducible refine (isAcross a _).mono ?_; rintro e w' ⟨rfl, hw⟩; rw [hw, h1]; clear hw) | (with_reducible refine (isAcross l _).mono ?_; rintro e w' ⟨rfl, hw⟩; rw [hw, h2]; clear hw)) | (go_at_call 24; refine (areSpots lo hi ao c ps hn _ (HS.out.far ((Far.refl _ _ w).alloc _ hh)) (by simp; omega)).mono ?_; rintro e w3 ⟨rfl, hb3⟩; rw [h4]))
      go_ret
      exact ⟨ret_bool (HR.out.trans h4).symm, by (repeat (first | exact Below.refl _ _ | assumption | refine below_dr ?_ _ | refine Below.alloc ?_ (by first | omega | (simp; done) | (simp; omega)) _ | refine Below.setCell ?_ (by first | omega | (simp; done) | (simp; omega)) _ | refine Below.trans ?_ (Below.mono (by assumption) (by first | omega | (simp; done) | (simp; omega)))))⟩
  · have hr : okSh a l ps = false := by simp [okSh, h3]
    have HR := Lib.hid hr
    have h3' : ((ps.length : Int) == a * l) = false := by simp [h3]
    clear hr h3
    go_enter Tryd.func13, Tryd.ntmps13
    go_wp2_with (go_at_call 23; first | (with_reducible refine (isAcross a _).mono ?_; rintro e w' ⟨rfl, hw⟩; rw [hw, h1]; clear hw) | (with_reducible refine (isAcross l _).mono ?_; rintro e w' ⟨rfl, hw⟩; rw [hw, h2]; clear hw))
    go_ret
    exact ⟨ret_bool HR.out.symm, by (repeat (first | exact Below.refl _ _ | assumption | refine below_dr ?_ _ | refine Below.alloc ?_ (by first | omega | (simp; done) | (simp; omega)) _ | refine Below.setCell ?_ (by first | omega | (simp; done) | (simp; omega)) _ | refine Below.trans ?_ (Below.mono (by assumption) (by first | omega | (simp; done) | (simp; omega)))))⟩

theorem isValue (n : Int) (h0 : 0 ≤ n) (h1 : n < 100) (w : World) : Calls Tryd.prog 38 #[.int .i64 n] w fun e w' => e = .returned (.bool true) ∧ w' = w := by
  have hb : inB n (-1000000000000000) 1000000000000000 = true := by simp [inB]; omega
  go_enter Tryd.func38, Tryd.ntmps38
  go_wp2_with (go_at_call 34; refine (within n (-1000000000000000) 1000000000000000 _).mono ?_; rintro e w' ⟨rfl, hw⟩; rw [hw, hb]; clear hw)
  go_ret
  exact ⟨rfl, rfl⟩

theorem decimalS (n : Int) (h0 : 0 ≤ n) (h1 : n < 100) (w : World) : Calls Tryd.prog 39 #[.int .i64 n] w fun e w' => e = .returned (.string ⟨(Lib.itoa n).toArray⟩) ∧ w' = w := by
  obtain ⟨m, rfl⟩ := Int.eq_ofNat_of_zero_le h0
  have he : Lib.itoa (m : Int) = Lib.decDigits m := by rw [Lib.itoa, if_neg (by omega)]; rfl
  rw [he]
  go_enter Tryd.func39, Tryd.ntmps39
  go_wp2_with (go_at_call 40; refine (Tryd.strconv_FormatInt_10_small m (by omega) _).mono ?_; rintro e w1 ⟨rfl, rfl⟩)
  go_ret
  exact ⟨rfl, rfl⟩

set_option maxHeartbeats 1000000 in
theorem areValues (lo hi : Nat) (ao : Option Addr) (c : Nat) (xs : List Int) (hx : ∀ i, i < xs.length → 0 ≤ iAt xs i ∧ iAt xs i < 100) (hn : xs.length ≤ 64) (w : World) (hs : SlI w lo hi ao xs) :
    Calls Tryd.prog 25 #[.slice ao xs.length c] w fun e w' => e = .returned (.bool true) ∧ w' = w := by
  have HS := Lib.hid hs
  have HX := Lib.hid hx
  clear hs hx
  go_enter Tryd.func25, Tryd.ntmps25
  go_wp2_with fail
  go_loopw [7] (fun i wr => ∃ k : Nat, k ≤ xs.length ∧ i = .int .i64 k ∧ Hid (wr = w)) (fun i _ => xs.length - (intOf i).toNat)
  case atStart => exact ⟨0, by omega, rfl, rfl⟩
  case round =>
    obtain ⟨k, hk, rfl, HW⟩ := hrel
    obtain rfl := HW.out
    by_cases hlt : k < xs.length
    · obtain ⟨b1, o1, rfl, q0, q1, hc1⟩ := HS.out (by omega)
      have c1 := hc1 k hlt
      have z1 := HX.out k hlt
      clear hc1
      have k0 : (0 : Int) ≤ (k : Int) := by omega
      have k1 : (k : Int) < (xs.length : Int) := by omega
      go_wp2_with (go_at_call 38; refine (isValue _ z1.1 z1.2 _).mono ?_; rintro e w' ⟨rfl, hw⟩; rw [hw]; clear hw)
      go_roundw
      case rel => exact ⟨k + 1, by omega, by go_num, by first | exact Lib.hid rfl | exact Lib.hid trivial⟩
      case measure => simp [intOf]; omega
    · have f1 : (xs.length : Int) ≤ 64 := by omega
      go_wp2_with fail
      go_ret
      exact ⟨by first | rfl | simp, rfl⟩

set_option maxHeartbeats 1000000 in
theorem listText (lo hi : Nat) (ao : Option Addr) (c : Nat) (xs : List Int) (hx : ∀ i, i < xs.length → 0 ≤ iAt xs i ∧ iAt xs i < 100) (hn : xs.length ≤ 64) (w : World) (hs : SlI w lo hi ao xs) (hh : hi ≤ w.heap.size) :
    Calls Tryd.prog 26 #[.slice ao xs.length c] w fun e w' => e = .returned (.string ⟨(intT xs).toArray⟩) ∧ Below w.heap.size w w' := by
  have HS := Lib.hid hs
  have HX := Lib.hid hx
  clear hs hx
  go_enter Tryd.func26, Tryd.ntmps26
  go_wp2_with fail
  go_loopw [3, 9] (fun out i wr => ∃ k b cap : Nat, k ≤ xs.length ∧ i = .int .i64 k ∧ out = .slice (some ⟨b, 0, none⟩) k cap ∧ Hid (ORow wr 9 1 b cap k ((intS (xs.take k)).map Value.string)) ∧ w.heap.size ≤ b ∧ Hid (Below w.heap.size w wr)) (fun _ i _ => xs.length - (intOf i).toNat)
  case atStart => exact ⟨0, w.heap.size, 0, by omega, rfl, rfl, ORow.new w _ _, Nat.le_refl _, Below.alloc (Below.refl _ _) (Nat.le_refl _) _⟩
  case round =>
    obtain ⟨k, b, cap, hk, rfl, rfl, HR, hbb, HW⟩ := hrel
    have hz := HW.out.size
    by_cases hlt : k < xs.length
    · obtain ⟨b1, o1, rfl, q0, q1, hc1⟩ := HS.out.far (Far.below HW.out hh) (by omega)
      have c1 := hc1 k hlt
      have z1 := HX.out k hlt
      have HI := Lib.hid (intS_take hlt)
      clear hc1
      have k0 : (0 : Int) ≤ (k : Int) := by omega
      have k1 : (k : Int) < (xs.length : Int) := by omega
      go_wp2_with (first | (go_at_call 39; refine (decimalS _ z1.1 z1.2 _).mono ?_; rintro e w2 ⟨rfl, hw⟩; rw [hw]; clear hw) | (at_builtin; refine wpList_app rfl _ _ _ rfl 9 (.string ⟨#[]⟩) 1 16 Tryd.underlying58 infoStr rfl (by decide) _ #[_] 9 rfl (by simp [Value.oneCell']) b cap _ _ rfl rfl HR.out (by omega) (by decide) ?_; intro b' cap' w3 hr hg hgr))
      go_roundw
      case rel =>
        refine ⟨k + 1, b', cap', by omega, by go_num, rfl, ?_, by omega, ?_⟩
        · rw [HI.out, List.map_append]; exact hr
        · exact HW.out.trans (hgr.below hbb (by omega))
      case measure => simp [intOf]; omega
    · have hkk : k = xs.length := by omega
      subst hkk
      have HRX := Lib.hid (show ORow wr 9 1 b cap xs.length ((intS xs).map Value.string) by have := HR.out; rw [List.take_length] at this; exact this)
      have hcap := HRX.out.cap
      have hlt := HRX.out.lt
      have HJ := Lib.hid (show Calls Tryd.prog 28 #[.slice (some ⟨b, 0, none⟩) xs.length cap] wr fun e w' => e = .returned (.string ⟨(intT xs).toArray⟩) ∧ Below wr.heap.size wr w' by
        have := joined b (b + 1) cap (some ⟨b, 0, none⟩) (intS xs) (by rw [intS_len]; omega) (by rw [intS_len]; omega) (intS_size xs HX.out) wr HRX.out.strs (by omega)
        rw [intS_len, strT, intS_text] at this
        exact this)
      go_wp2_with (go_at_call 28; refine HJ.out.mono ?_; rintro e w4 ⟨rfl, hb4⟩)
      go_ret
      exact ⟨rfl, HW.out.trans (hb4.mono hz)⟩

theorem listTextP (lo hi : Nat) (ao : Option Addr) (c : Nat) (xs : List Int) (hx : ∀ i, i < xs.length → 0 ≤ iAt xs i ∧ iAt xs i < 100) (hn : xs.length ≤ 64) (w : World) (hs : SlI w lo hi ao xs) (hh : hi ≤ w.heap.size) :
    Calls Tryd.prog 14 #[.slice ao xs.length c] w fun e w' => e = .returned (.tuple #[.string ⟨(intT xs).toArray⟩, .bool true]) ∧ Below w.heap.size w w' := by
  go_enter Tryd.func14, Tryd.ntmps14
  go_wp2_with (first | (go_at_call 25; refine (areValues lo hi ao c xs hx hn _ hs).mono ?_; rintro e w' ⟨rfl, hw⟩; rw [hw]; clear hw) | (go_at_call 26; refine (listText lo hi ao c xs hx hn _ hs hh).mono ?_; rintro e w1 ⟨rfl, hb1⟩))
  go_ret2
  exact ⟨rfl, hb1⟩

set_option maxHeartbeats 1000000 in
theorem spotNumbers (lo hi : Nat) (ao : Option Addr) (c : Nat) (ps : List Sp) (hlen : ps.length ≤ 36) (hfin : ps.all finSp = true) (w : World) (hs : SlP w lo hi ao ps) (hh : hi ≤ w.heap.size) :
    Calls Tryd.prog 16 #[.slice ao ps.length c] w fun e w' => ∃ bo cap, e = .returned (.slice (some ⟨bo, 0, none⟩) (3 * ps.length) cap) ∧ ORow w' 48 1 bo cap (3 * ps.length) ((flatP ps).map (Value.float .f32)) ∧ w.heap.size ≤ bo ∧ Below w.heap.size w w' := by
  have HS := Lib.hid hs
  have HF := Lib.hid hfin
  clear hs hfin
  go_enter Tryd.func16, Tryd.ntmps16
  go_wp2_with fail
  go_loopw [3, 9] (fun out i wr => ∃ k bo cap : Nat, k ≤ ps.length ∧ i = .int .i64 k ∧ out = .slice (some ⟨bo, 0, none⟩) (3 * k) cap ∧ Hid (ORow wr 48 1 bo cap (3 * k) ((flatP (ps.take k)).map (Value.float .f32))) ∧ w.heap.size ≤ bo ∧ Hid (Below w.heap.size w wr)) (fun _ i _ => ps.length - (intOf i).toNat)
  case atStart => exact ⟨0, w.heap.size, 0, by omega, rfl, rfl, ORow.new w _ _, Nat.le_refl _, Below.alloc (Below.refl _ _) (Nat.le_refl _) _⟩
  case round =>
    obtain ⟨k, bo, cap, hk, rfl, rfl, HR, hbo, HW⟩ := hrel
    have hz := HW.out.size
    by_cases hlt : k < ps.length
    · obtain ⟨b1, o1, rfl, q0, q1, hc1⟩ := HS.out.far (Far.below HW.out hh) (by omega)
      obtain ⟨x, y, z, e1, e2, e3, f1, f2, f3⟩ := hc1 k hlt
      have hfk := finSp_parts (all_at HF.out hlt)
      have hx := f32_fin f1 hfk.1
      have hy := f32_fin f2 hfk.2.1
      have hzz := f32_fin f3 hfk.2.2
      have HFL := Lib.hid (flatP_take hlt)
      rw [← hx, ← hy, ← hzz] at HFL
      clear hc1 f1 f2 f3 hfk hx hy hzz
      have k0 : (0 : Int) ≤ (k : Int) := by omega
      have k1 : (k : Int) < (ps.length : Int) := by omega
      have HR1 := Lib.hid (HR.out.below (B := wr.heap.size) (Below.alloc (Below.refl _ wr) (Nat.le_refl _) (.cells #[.float .f32 x, .float .f32 y, .float .f32 z] 50)) HR.out.lt)
      go_wp2_with (at_builtin; refine wpList_appN rfl _ _ _ rfl 48 (.float .f32 0) 1 4 Tryd.underlying43 infoF rfl (by decide) _ #[_, _, _] 48 3 rfl (by simp [Value.oneCell']) _ bo cap _ _ rfl rfl (by simp) (by decide) (by decide) HR1.out (by omega) (by decide) ?_; intro b' cap' w1 hr hg hgr)
      go_roundw
      case rel =>
        refine ⟨k + 1, b', cap', by omega, by go_num, by rw [Nat.mul_succ], ?_, by simp at hg; omega, ?_⟩
        · rw [HFL.out, List.map_append, Nat.mul_succ]; exact hr
        · exact (Below.alloc HW.out hz _).trans (hgr.below hbo (by simp; omega))
      case measure => simp [intOf]; omega
    · have hkk : k = ps.length := by omega
      subst hkk
      have HRX := Lib.hid (show ORow wr 48 1 bo cap (3 * ps.length) ((flatP ps).map (Value.float .f32)) by have := HR.out; rw [List.take_length] at this; exact this)
      go_wp2_with fail
      go_ret
      exact ⟨bo, cap, rfl, HRX.out, hbo, HW.out⟩

set_option maxHeartbeats 2000000 in
theorem implSheetText (lo hi : Nat) (a l : Int) (ao : Option Addr) (c : Nat) (ps : List Sp) (hn : ps.length ≤ 1048576) (hsm : Sm ps) (w : World) (hs : SlP w lo hi ao ps) (hh : hi ≤ w.heap.size) (ht : Tz w) :
    Calls Tryd.prog 7 #[shV a l ao ps.length c] w fun e w' => e = .returned (.tuple #[.string (if okSh a l ps then ⟨(shT a l ps).toArray⟩ else ⟨#[]⟩), .bool (okSh a l ps)]) ∧ Below w.heap.size w w' := by
  have HS := Lib.hid hs
  have HM := Lib.hid hsm
  have HT := Lib.hid ht
  clear hs hsm ht
  unfold shV
  cases hok : okSh a l ps
  · rw [if_neg (by decide)]
    go_enter Tryd.func7, Tryd.ntmps7
    go_wp2_with (go_at_call 13; refine (validSheet lo hi a l ao c ps hn _ (HS.out.far ((Far.refl _ _ w).alloc _ hh)) (by simp; omega)).mono ?_; rintro e w1 ⟨rfl, hb1⟩; rw [hok])
    go_ret2
    exact ⟨rfl, Below.trans (Below.alloc (Below.refl _ w) (Nat.le_refl _) _) (hb1.mono (by simp))⟩
  · rw [if_pos rfl]
    obtain ⟨hab, hlen, hfin⟩ := okSh_parts hok
    have HO := Lib.hid hok
    have HF := Lib.hid hfin
    clear hok hfin
    have hil : ∀ i, i < [a, l].length → 0 ≤ iAt [a, l] i ∧ iAt [a, l] i < 100 := fun i hi => by
      have : i = 0 ∨ i = 1 := by simp at hi; omega
      rcases this with rfl | rfl
      · show 0 ≤ a ∧ a < 100; omega
      · show 0 ≤ l ∧ l < 100; omega
    have HL : Hid (∀ (w' : World) (nb : Nat), w'.cell? ⟨nb, 0, none⟩ = some (.int .i64 a) → w'.cell? ⟨nb, 1, none⟩ = some (.int .i64 l) → Calls Tryd.prog 14 #[.slice (some ⟨nb, 0, none⟩) 2 2] w' fun e w'' => e = .returned (.tuple #[.string ⟨(intT [a, l]).toArray⟩, .bool true]) ∧ Below w'.heap.size w' w'') := Lib.hid fun w' nb g0 g1 =>
      listTextP nb (nb + 1) (some ⟨nb, 0, none⟩) 2 [a, l] hil (by simp) w' (fun _ => ⟨nb, 0, rfl, Nat.le_refl _, Nat.lt_succ_self _, fun i hi => by
        have : i = 0 ∨ i = 1 := by simp at hi; omega
        rcases this with rfl | rfl
        · exact g0
        · exact g1⟩) (World.block_lt_of_cell? w' _ g0)
    have hln := numT_len (flatP ps)
    rw [flatP_len] at hln
    have hl2 := intT_len [a, l] (fun i hi => by have := hil i hi; omega)
    simp only [List.length_cons, List.length_nil] at hl2
    have s1 : ¬ (intT [a, l]).length + 1 > 9223372036854775807 := by omega
    have s2 : ¬ (intT [a, l]).length + 1 + (numT (flatP ps)).length > 9223372036854775807 := by omega
    clear hln hl2 hil
    go_enter Tryd.func7, Tryd.ntmps7
    go_wp2_with (first
      | (go_at_call 13; refine (validSheet lo hi a l ao c ps hn _ (HS.out.far ((Far.refl _ _ w).alloc _ hh)) (by simp; omega)).mono ?_; rintro e w1 ⟨rfl, hb1⟩; rw [HO.out]; have d0 := keep_cell hb1 (news_new w #[.int .i64 a, .int .i64 l, .slice ao ps.length c] 30 0 _ rfl); have d1 := keep_cell hb1 (news_new w #[.int .i64 a, .int .i64 l, .slice ao ps.length c] 30 1 _ rfl); have d2 := keep_cell hb1 (news_new w #[.int .i64 a, .int .i64 l, .slice ao ps.length c] 30 2 _ rfl); have HB1 := Lib.hid (Below.trans (Below.alloc (Below.refl _ w) (Nat.le_refl _) _) (hb1.mono (by simp))); have hz1 := hb1.size; simp at hz1; clear hb1)
      | (go_at_call 14; refine (HL.out _ _ (news_new w1 #[.int .i64 a, .int .i64 l] 2 0 _ rfl) (news_new w1 #[.int .i64 a, .int .i64 l] 2 1 _ rfl)).mono ?_; rintro e w2 ⟨rfl, hb2⟩; have HB2 := Lib.hid (Below.trans (Below.alloc (Below.refl _ w1) (Nat.le_refl _) _) (hb2.mono (by simp))); clear hb2; have e2 := (HB2.out.cell (p := ⟨w.heap.size, 2, none⟩) (by show w.heap.size < _; omega)).trans d2)
      | (go_at_call 16; refine (spotNumbers lo hi ao c ps hlen HF.out _ (HS.out.far (Far.below (HB1.out.trans (HB2.out.mono (by omega))) hh)) (by have := HB2.out.size; omega)).mono ?_; rintro e w3 ⟨bo, cap, rfl, hr3, hbo, hb3⟩; have HR3 := Lib.hid hr3; have HB3 := Lib.hid (HB1.out.trans ((HB2.out.mono (by omega)).trans (hb3.mono (by have := HB2.out.size; omega)))); clear hr3 hb3)
      | (go_at_call 15; refine (show Calls Tryd.prog 15 #[.slice (some ⟨bo, 0, none⟩) (3 * ps.length) cap] w3 fun e w' => e = .returned (.tuple #[.string ⟨(numT (flatP ps)).toArray⟩, .bool true]) ∧ Below w3.heap.size w3 w' by (have := numbersText bo (bo + 1) (some ⟨bo, 0, none⟩) cap (flatP ps) (by rw [flatP_len]; omega) w3 (HR3.out.nums HF.out HM.out) HR3.out.lt (HT.out.on HB3.out); rw [flatP_len] at this; exact this)).mono ?_; rintro e w4 ⟨rfl, hb4⟩))
    go_ret2
    exact ⟨congrArg (fun v => Ending.returned (.tuple #[v, .bool true])) (app_semi _ _), HB3.out.trans (hb4.mono HB3.out.size)⟩
end Go.Proofs.YtlpgaekkhlinhaaDoor

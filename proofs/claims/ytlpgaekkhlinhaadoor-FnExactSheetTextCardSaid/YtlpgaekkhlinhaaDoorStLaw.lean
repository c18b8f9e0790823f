/- The law: both texts of a sheet are alike. -/
import Derived.Test.YtlpgaekkhlinhaaDoorShB
namespace Go.Proofs.YtlpgaekkhlinhaaDoor
open Go.RowKit Go.Fl

/-- what is left of a number behind a list of that length -/
def lessLen (left : Int) (n : Nat) : Int := if left < n then -1 else left - n
theorem lessLen_yes {left : Int} {n : Nat} (h : left < n) : lessLen left n = -1 := if_pos h
theorem lessLen_no {left : Int} {n : Nat} (h : ¬ left < n) : lessLen left n = left - n := if_neg h
theorem szSpotS (ao : Option Addr) (n c : Nat) (left : Int) (hn : n ≤ 9223372036854775807) (h0 : 0 ≤ left) (h1 : left ≤ 1048576) (w : World) :
    Calls Tryd.prog 9 #[.slice ao n c, .int .i64 left] w fun e w' => e = .returned (.int .i64 (lessLen left n)) ∧ w' = w := by
  by_cases h : left < n
  · have HL := Lib.hid (lessLen_yes h)
    go_enter Tryd.func9, Tryd.ntmps9
    go_wp2_with fail
    all_goals first | omega | (go_ret; exact ⟨ret_int HL.out.symm, rfl⟩)
  · have HL := Lib.hid (lessLen_no h)
    go_enter Tryd.func9, Tryd.ntmps9
    go_wp2_with fail
    all_goals first | omega | (go_ret; exact ⟨ret_int HL.out.symm, rfl⟩)
theorem szSheet (a l : Int) (ao : Option Addr) (n c : Nat) (hn : n ≤ 9223372036854775807) (w : World) :
    Calls Tryd.prog 4 #[shV a l ao n c, .int .i64 1048576] w fun e w' => (∃ r, e = .returned (.int .i64 r) ∧ (0 ≤ r → n ≤ 1048576)) ∧ Below w.heap.size w w' := by
  unfold shV
  by_cases h : (1048576 : Int) < n
  · have HL := Lib.hid (lessLen_yes h)
    go_enter Tryd.func4, Tryd.ntmps4
    go_wp2_with (go_at_call 9; refine (szSpotS ao n c 1048576 hn (by omega) (by omega) _).mono ?_; rintro e w' ⟨rfl, hw⟩; rw [hw, HL.out]; clear hw)
    go_ret
    exact ⟨⟨_, rfl, fun h => by omega⟩, by (repeat (first | exact Below.refl _ _ | assumption | refine below_dr ?_ _ | refine Below.alloc ?_ (by first | omega | (simp; done) | (simp; omega)) _ | refine Below.setCell ?_ (by first | omega | (simp; done) | (simp; omega)) _ | refine Below.trans ?_ (Below.mono (by assumption) (by first | omega | (simp; done) | (simp; omega)))))⟩
  · have HL := Lib.hid (lessLen_no h)
    have h1 : ¬ (1048576 : Int) - n < 0 := by omega
    go_enter Tryd.func4, Tryd.ntmps4
    go_wp2_with (go_at_call 9; refine (szSpotS ao n c 1048576 hn (by omega) (by omega) _).mono ?_; rintro e w' ⟨rfl, hw⟩; rw [hw, HL.out]; clear hw)
    go_ret
    exact ⟨⟨_, rfl, fun _ => by omega⟩, by (repeat (first | exact Below.refl _ _ | assumption | refine below_dr ?_ _ | refine Below.alloc ?_ (by first | omega | (simp; done) | (simp; omega)) _ | refine Below.setCell ?_ (by first | omega | (simp; done) | (simp; omega)) _ | refine Below.trans ?_ (Below.mono (by assumption) (by first | omega | (simp; done) | (simp; omega)))))⟩

set_option maxHeartbeats 1000000 in
theorem toSheet (lo hi : Nat) (a l : Int) (ao : Option Addr) (c : Nat) (ps : List Sp) (hn : ps.length ≤ 1048576) (w : World) (hs : SlP w lo hi ao ps) (hh : hi ≤ w.heap.size) :
    Calls Tryd.prog 6 #[shV a l ao ps.length c] w fun e w' => ∃ nb, e = .returned (shV a l (some ⟨nb, 0, none⟩) ps.length ps.length) ∧ SlP w' nb (nb + 1) (some ⟨nb, 0, none⟩) ps ∧ w.heap.size ≤ nb ∧ nb < w'.heap.size ∧ Below w.heap.size w w' := by
  have HS := Lib.hid hs
  clear hs
  unfold shV
  go_enter Tryd.func6, Tryd.ntmps6
  go_wp2_with fail
  refine (toSpotS lo hi ao c ps hn _ (HS.out.far (((Far.refl _ _ w).alloc _ hh).alloc _ (by first | omega | (simp; done) | (simp; omega)) |>.alloc _ (by first | omega | (simp; done) | (simp; omega)))) (by first | omega | (simp; done) | (simp; omega))).mono ?_
  rintro e w1 ⟨rfl, hs1, hr1, hsz1, hb1⟩
  simp only [World.size_alloc] at hs1 hsz1
  have A1 : OwnC w1 (w.heap.size + 1) #[.int .i64 0, .int .i64 0, .slice none 0 0] 30 := ((OwnC.new (by simp)).alloc _).below hb1 (by first | omega | (simp; done) | (simp; omega))
  have A2 : OwnC w1 (w.heap.size + 1 + 1) #[.int .i64 a, .int .i64 l, .slice none 0 0] 30 := (OwnC.new (by simp)).below hb1 (by first | omega | (simp; done) | (simp; omega))
  have HB1 : Hid (Below w.heap.size w w1) := Lib.hid (Below.trans (by (repeat (first | exact Below.refl _ _ | assumption | refine below_dr ?_ _ | refine Below.alloc ?_ (by first | omega | (simp; done) | (simp; omega)) _ | refine Below.setCell ?_ (by first | omega | (simp; done) | (simp; omega)) _ | refine Below.trans ?_ (Below.mono (by assumption) (by first | omega | (simp; done) | (simp; omega)))))) (hb1.mono (by first | omega | (simp; done) | (simp; omega))))
  have HS1 := Lib.hid hs1
  have c0 := A1.cell 0
  have c1 := A1.cell 1
  have c2 := A1.cell 2
  have d0 := A2.cell 0
  have d1 := A2.cell 1
  have d2 := A2.cell 2
  have e0 := A1.free 0
  have e1 := A1.free 1
  have e2 := A1.free 2
  have e3 := A2.free 2
  simp at c0 c1 c2 d0 d1 d2
  clear hs1 hb1
  clear hr1
  go_wp2_with fail
  have hfin : Far (w.heap.size + 1 + 1 + 1) (w.heap.size + 1 + 1 + 1 + 1) w1 ((((w1.setCell ⟨w.heap.size + 1 + 1, 2, none⟩ (.slice (some ⟨w.heap.size + 1 + 1 + 1, 0, none⟩) ps.length ps.length)).setCell ⟨w.heap.size + 1, 0, none⟩ (.int .i64 a)).setCell ⟨w.heap.size + 1, 1, none⟩ (.int .i64 l)).setCell ⟨w.heap.size + 1, 2, none⟩ (.slice (some ⟨w.heap.size + 1 + 1 + 1, 0, none⟩) ps.length ps.length)) :=
    ((((Far.refl _ _ w1).set _ _ (.inl (by first | omega | (simp; done) | (simp; omega)))).set _ _ (.inl (by first | omega | (simp; done) | (simp; omega)))).set _ _ (.inl (by first | omega | (simp; done) | (simp; omega)))).set _ _ (.inl (by first | omega | (simp; done) | (simp; omega)))
  refine bodyPost_ret (v := .agg #[.int .i64 a, .int .i64 l, .slice (some ⟨w.heap.size + 1 + 1 + 1, 0, none⟩) ps.length ps.length]) (by simp [results, Tryd.results6, go_sem, *]) rfl ⟨w.heap.size + 1 + 1 + 1, rfl, HS1.out.far hfin, by omega, by simpa using hsz1, ?_⟩
  exact (((HB1.out.setCell (by first | omega | (simp; done) | (simp; omega)) _).setCell (by first | omega | (simp; done) | (simp; omega)) _).setCell (by first | omega | (simp; done) | (simp; omega)) _).setCell (by first | omega | (simp; done) | (simp; omega)) _

set_option maxHeartbeats 1000000 in
theorem eqSheet (lo hi lo' hi' : Nat) (a l : Int) (ao bo : Option Addr) (c1 c2 : Nat) (ps : List Sp) (hn : ps.length ≤ 1048576) (w : World) (ha : SlP w lo hi ao ps) (hb : SlP w lo' hi' bo ps) (h1 : hi ≤ w.heap.size) (h2 : hi' ≤ w.heap.size) :
    Calls Tryd.prog 8 #[shV a l ao ps.length c1, shV a l bo ps.length c2] w fun e w' => e = .returned (.bool true) ∧ Below w.heap.size w w' := by
  have HA := Lib.hid ha
  have HB := Lib.hid hb
  clear ha hb
  unfold shV
  go_enter Tryd.func8, Tryd.ntmps8
  go_wp2_with fail
  refine (eqSpotS lo hi lo' hi' ao bo c1 c2 ps hn _ (HA.out.far (((Far.refl _ _ _).alloc _ h1).alloc _ (by first | omega | (simp; done) | (simp; omega)))) (HB.out.far (((Far.refl _ _ _).alloc _ h2).alloc _ (by first | omega | (simp; done) | (simp; omega)))) (by first | omega | (simp; done) | (simp; omega)) (by first | omega | (simp; done) | (simp; omega))).mono ?_
  rintro e w1 ⟨rfl, hb1⟩
  have HB1 : Hid (Below w.heap.size w w1) := Lib.hid (Below.trans (by (repeat (first | exact Below.refl _ _ | assumption | refine below_dr ?_ _ | refine Below.alloc ?_ (by first | omega | (simp; done) | (simp; omega)) _ | refine Below.setCell ?_ (by first | omega | (simp; done) | (simp; omega)) _ | refine Below.trans ?_ (Below.mono (by assumption) (by first | omega | (simp; done) | (simp; omega)))))) (hb1.mono (by first | omega | (simp; done) | (simp; omega))))
  clear hb1
  go_wp2_with fail
  go_ret
  exact ⟨rfl, HB1.out⟩

set_option maxHeartbeats 4000000 in
theorem lawSt (hi : Nat) (a l : Int) (ao : Option Addr) (c : Nat) (ps : List Sp) (hn : ps.length ≤ 9223372036854775807) (hsm : Sm ps) (w : World) (hs : SlP w 0 hi ao ps) (hh : hi ≤ w.heap.size) (ht : Tz w) :
    Calls Tryd.prog 3 #[shV a l ao ps.length c] w fun e w' => e = .returned (.bool true) ∧ Below w.heap.size w w' := by
  have HS := Lib.hid hs
  have HM := Lib.hid hsm
  have HT := Lib.hid ht
  clear hs hsm ht
  have HA0 : OwnC (w.alloc (.cells #[.int .i64 a, .int .i64 l, .slice ao ps.length c] 24)) w.heap.size #[.int .i64 a, .int .i64 l, .slice ao ps.length c] 24 := OwnC.new rfl
  obtain ⟨tx, hT⟩ : ∃ tx, (if okSh a l ps = true then (⟨(shT a l ps).toArray⟩ : ByteArray) else ⟨#[]⟩) = tx := ⟨_, rfl⟩
  obtain ⟨ok, hO⟩ : ∃ ok, okSh a l ps = ok := ⟨_, rfl⟩
  have HTX := Lib.hid hT
  have HOK := Lib.hid hO
  clear hT hO
  unfold shV
  go_enter Tryd.func3, Tryd.ntmps3
  go_wp2_with fail
  refine (szSheet a l ao ps.length c hn _).mono ?_
  rintro e w1 ⟨⟨r, rfl, hfit⟩, hb1⟩
  have HB1 : Hid (Below w.heap.size w w1) := Lib.hid (Below.trans (by (repeat (first | exact Below.refl _ _ | assumption | refine below_dr ?_ _ | refine Below.alloc ?_ (by first | omega | (simp; done) | (simp; omega)) _ | refine Below.setCell ?_ (by first | omega | (simp; done) | (simp; omega)) _ | refine Below.trans ?_ (Below.mono (by assumption) (by first | omega | (simp; done) | (simp; omega)))))) (hb1.mono (by simp)))
  have z1 : w.heap.size + 1 ≤ w1.heap.size := by have := hb1.size; simpa using this
  have A1 := HA0.below hb1 (by first | omega | (simp; done) | (simp; omega))
  have HFIT := Lib.hid hfit
  clear hb1 hfit HA0
  have c0 := A1.cell 0
  have c1 := A1.cell 1
  have c2 := A1.cell 2
  simp at c0 c1 c2
  have HA1 := Lib.hid A1
  clear A1
  by_cases hr : r < 0
  · go_wp2_with fail
    go_ret
    exact ⟨rfl, HB1.out⟩
  have hn' := HFIT.out (by omega)
  clear hn HFIT
  have HR := Lib.hid hr
  -- the reference's answer
  go_wp2_with fail
  refine (toSheet 0 hi a l ao c ps hn' _ (HS.out.far (Far.below HB1.out hh)) (by omega)).mono ?_
  rintro e w2 ⟨nb, rfl, hs2, hnb, hnl, hb2⟩
  have z2 := hb2.size
  have A2 := HA1.out.below hb2 (by omega)
  have HB2 := Lib.hid (HB1.out.trans (hb2.mono (by omega)))
  have HS2 := Lib.hid hs2
  clear c0 c1 c2 hs2 hb2
  go_wp2_with fail
  refine (specSheetText nb (nb + 1) a l (some ⟨nb, 0, none⟩) ps.length ps hn' HM.out _ HS2.out hnl).mono ?_
  rintro e w3 ⟨he, hb3⟩
  rw [HTX.out, HOK.out] at he
  subst he
  have z3 := hb3.size
  have A3 := A2.below hb3 (by omega)
  have HB3 := Lib.hid (HB2.out.trans (hb3.mono (by omega)))
  have c0 := A3.cell 0
  have c1 := A3.cell 1
  have c2 := A3.cell 2
  simp at c0 c1 c2
  have HA3 := Lib.hid A3
  clear A2 A3 hb3 HS2 HA1
  -- the program's answer
  go_wp2_with fail
  refine (toSheet 0 hi a l ao c ps hn' _ (HS.out.far (Far.below HB3.out hh)) (by omega)).mono ?_
  rintro e w4 ⟨nb2, rfl, hs4, hnb2, hnl2, hb4⟩
  have z4 := hb4.size
  have A4 := (HA3.out.below hb4 (by omega)).alloc (.cells #[.int .i64 a, .int .i64 l, .slice (some ⟨nb2, 0, none⟩) ps.length ps.length] 30)
  have X4 : OwnC (w4.alloc (.cells #[.int .i64 a, .int .i64 l, .slice (some ⟨nb2, 0, none⟩) ps.length ps.length] 30)) w4.heap.size #[.int .i64 a, .int .i64 l, .slice (some ⟨nb2, 0, none⟩) ps.length ps.length] 30 := OwnC.new rfl
  have HB4 := Lib.hid ((HB3.out.trans (hb4.mono (by omega))).alloc (by omega) (.cells #[.int .i64 a, .int .i64 l, .slice (some ⟨nb2, 0, none⟩) ps.length ps.length] 30))
  have HS4 := Lib.hid (hs4.far ((Far.refl _ _ w4).alloc (.cells #[.int .i64 a, .int .i64 l, .slice (some ⟨nb2, 0, none⟩) ps.length ps.length] 30) hnl2))
  clear c0 c1 c2 hs4 hb4 HA3
  unfold shV
  go_wp2_with fail
  refine (implSheetText nb2 (nb2 + 1) a l (some ⟨nb2, 0, none⟩) ps.length ps hn' HM.out _ HS4.out (by simp; omega) (HT.out.on HB4.out)).mono ?_
  rintro e w5 ⟨he, hb5⟩
  rw [HTX.out, HOK.out] at he
  subst he
  have z5 : w4.heap.size + 1 ≤ w5.heap.size := by have := hb5.size; simpa using this
  have A5 := A4.below hb5 (by simp; omega)
  have X5 := X4.below hb5 (by simp)
  have HS5 := Lib.hid (HS4.out.far (Far.below hb5 (by simp; omega)))
  have HB5 := Lib.hid (HB4.out.trans (hb5.mono (by simp; omega)))
  have c0 := A5.cell 0
  have c1 := A5.cell 1
  have c2 := A5.cell 2
  have x0 := X5.cell 0
  have x1 := X5.cell 1
  have x2 := X5.cell 2
  simp at c0 c1 c2 x0 x1 x2
  clear A4 X4 hb5 A5 X5 HB4 HS4
  have h1 : (tx.toList == tx.toList) = true := by simp
  go_wp2_with fail
  have HSW : Hid (SlP w5.drew 0 hi ao ps) := Lib.hid (HS.out.far (Far.below (below_dr HB5.out 1) hh))
  go_region_held3 (fun w' => w'.cell? ⟨w.heap.size, 0, none⟩ = some (.int .i64 a) ∧ w'.cell? ⟨w.heap.size, 1, none⟩ = some (.int .i64 l) ∧ w'.cell? ⟨w.heap.size, 2, none⟩ = some (.slice ao ps.length c) ∧ w'.cell? ⟨w4.heap.size, 0, none⟩ = some (.int .i64 a) ∧ w'.cell? ⟨w4.heap.size, 1, none⟩ = some (.int .i64 l) ∧ w'.cell? ⟨w4.heap.size, 2, none⟩ = some (.slice (some ⟨nb2, 0, none⟩) ps.length ps.length)) (first | go_keep | (exact ⟨keep_cell HB7.out c0, keep_cell HB7.out c1, keep_cell HB7.out c2, keep_cell HB7.out x0, keep_cell HB7.out x1, keep_cell HB7.out x2⟩) | (exact ⟨c0, c1, c2, x0, x1, x2⟩))
    (first
    | (go_at_call 6; refine (toSheet 0 hi a l ao c ps hn' w5.drew HSW.out (by show hi ≤ w5.heap.size; omega)).mono ?_; rintro e w7 ⟨nb3, rfl, hs7, hnb7, hnl7, hb7⟩; have HS7 := Lib.hid hs7; have HB7 : Hid (Below w5.heap.size w5 w7) := Lib.hid ⟨hb7.os, hb7.tape, hb7.output, hb7.size, hb7.block⟩; clear hs7 hb7; unfold shV)
    | (go_at_call 8; refine (eqSheet nb2 (nb2 + 1) nb3 (nb3 + 1) a l (some ⟨nb2, 0, none⟩) (some ⟨nb3, 0, none⟩) _ _ ps hn' w7 (HS5.out.far (Far.below HB7.out (by omega))) HS7.out (by have := HB7.out.size; omega) hnl7).mono ?_; rintro e w8 ⟨rfl, hb8⟩; have HB7 : Hid (Below w5.heap.size w5 w8) := Lib.hid (HB7.out.trans (hb8.mono HB7.out.size)); clear hb8))
  go_wp2_with fail
  go_ret
  exact ⟨rfl, HB5.out.trans (HB7.out.mono (by omega))⟩
end Go.Proofs.YtlpgaekkhlinhaaDoor

/- The law of AreaOfNet. -/
import Derived.Test.YtbmahankleijkaaAreaB
import Derived.Test.YtbmahankleijkaaAreaS
import Derived.Test.YtbmahankleijkaaOwn
namespace Go.Proofs.Ytbmahankleijkaa
open Go.RowKit Go.Fl

set_option maxHeartbeats 4000000 in
set_option maxRecDepth 100000 in
theorem fnAreaOfNet (lo hi : Nat) (sa fa : Option Addr) (cn cm : Nat) (ps : List Sp) (fs : List (List Int)) (hp : ps.length ≤ 9223372036854775807) (hn : fs.length ≤ 9223372036854775807) (hsh : Short fs 9223372036854775807 fs.length) (w : World)
    (hnet : NetAt w lo hi sa fa ps fs) (hh : hi ≤ w.heap.size) :
    Calls Try.prog 9 #[netV sa fa ps.length cn fs.length cm] w fun e w' => e = .returned (.bool true) ∧ Below w.heap.size w w' := by
  have HN := Lib.hid hnet
  have HSH := Lib.hid hsh
  clear hnet hsh
  unfold netV
  have A0 : OwnC (w.alloc (.cells #[.slice sa ps.length cn, .slice fa fs.length cm] 25)) w.heap.size #[.slice sa ps.length cn, .slice fa fs.length cm] 25 := OwnC.new rfl
  have HA0 := Lib.hid A0
  clear A0
  go_enter Try.func9, Try.ntmps9
  go_wp2_with fail
  refine (szNet lo hi sa fa cn cm ps fs hp hn HSH.out _ (HN.out.far ((Far.refl _ _ _).alloc _ hh)) (by first | omega | (simp; done) | (simp; omega))).mono ?_
  rintro e w1 ⟨⟨r, rfl, hfit⟩, hb1⟩
  have HB1 : Hid (Below w.heap.size w w1) := Below.trans (by (repeat (first | exact Below.refl _ _ | assumption | refine below_dr ?_ _ | refine Below.alloc ?_ (by first | omega | (simp; done) | (simp; omega)) _ | refine Below.setCell ?_ (by first | omega | (simp; done) | (simp; omega)) _ | refine Below.trans ?_ (Below.mono (by assumption) (by first | omega | (simp; done) | (simp; omega)))))) (hb1.mono (by simp))
  have z1 : w.heap.size + 1 ≤ w1.heap.size := by have := hb1.size; simpa using this
  have A1 := HA0.out.below hb1 (by first | omega | (simp; done) | (simp; omega))
  have c0 := A1.cell 0
  have c1 := A1.cell 1
  simp at c0 c1
  have HA1 := Lib.hid A1
  have HFIT := Lib.hid hfit
  clear A1 HA0 hb1 hfit
  by_cases hr : r < 0
  · go_wp2_with fail
    go_ret
    exact ⟨rfl, HB1.out⟩
  have hf := HFIT.out (by omega)
  have hp' := hf.spots
  have hn' := hf.facets
  have HSH' : Hid (∀ i, i < fs.length → (fAt fs i).length ≤ 1048576) := Lib.hid hf.short
  clear hp hn HSH hf HFIT
  -- the reference's answer
  go_wp2_with fail
  refine (toNet lo hi sa fa cn cm ps fs hp' hn' HSH'.out _ (HN.out.far (Far.below HB1.out hh)) (by omega)).mono ?_
  rintro e w2 ⟨bs1, bf1, g1, rfl, hN1, hb2⟩
  have HN1 := Lib.hid hN1
  have z2 := hb2.size
  have A2 := HA1.out.below hb2 (by omega)
  have HB2 := Lib.hid (HB1.out.trans (hb2.mono (by omega)))
  clear c0 c1 hN1 hb2
  unfold netV
  go_wp2_with fail
  refine (areaS w1.heap.size w2.heap.size (some ⟨bs1, 0, none⟩) (some ⟨bf1, 0, none⟩) ps.length fs.length ps fs hp' hn' HSH'.out _ HN1.out.net (Nat.le_refl _)).mono ?_
  rintro e w3 ⟨⟨r1, rfl, hO1⟩, hb3⟩
  have HR1 := Lib.hid hO1
  have z3 := hb3.size
  have A3 := A2.below hb3 (by omega)
  have HB3 := Lib.hid (HB2.out.trans (hb3.mono (by omega)))
  have c0 := A3.cell 0
  have c1 := A3.cell 1
  simp at c0 c1
  have HA3 := Lib.hid A3
  clear A2 A3 hO1 hb3 HN1 HA1
  -- the program's answer
  go_wp2_with fail
  refine (toNet lo hi sa fa cn cm ps fs hp' hn' HSH'.out _ (HN.out.far (Far.below HB3.out hh)) (by omega)).mono ?_
  rintro e w4 ⟨bs2, bf2, g2, rfl, hN2, hb4⟩
  have z4 := hb4.size
  have A4 := HA3.out.below hb4 (by omega)
  have HB4 := Lib.hid (HB3.out.trans (hb4.mono (by omega)))
  have hfar4 : Far 0 w4.heap.size w4 (w4.alloc (.cells #[.slice (some ⟨bs2, 0, none⟩) ps.length ps.length, .slice (some ⟨bf2, 0, none⟩) fs.length fs.length] 33)) := (Far.refl _ _ _).alloc _ (Nat.le_refl _)
  have HN2 := Lib.hid (hN2.far (hfar4.mono (Nat.zero_le _) (Nat.le_refl _)))
  have A4 := A4.alloc (.cells #[.slice (some ⟨bs2, 0, none⟩) ps.length ps.length, .slice (some ⟨bf2, 0, none⟩) fs.length fs.length] 33)
  have X4 : OwnC (w4.alloc (.cells #[.slice (some ⟨bs2, 0, none⟩) ps.length ps.length, .slice (some ⟨bf2, 0, none⟩) fs.length fs.length] 33)) w4.heap.size #[.slice (some ⟨bs2, 0, none⟩) ps.length ps.length, .slice (some ⟨bf2, 0, none⟩) fs.length fs.length] 33 := OwnC.new rfl
  have HB4 := Lib.hid (HB4.out.alloc (by omega) (.cells #[.slice (some ⟨bs2, 0, none⟩) ps.length ps.length, .slice (some ⟨bf2, 0, none⟩) fs.length fs.length] 33))
  clear c0 c1 hN2 hb4 HA3 hfar4
  unfold netV
  go_wp2_with fail
  refine (areaB w3.heap.size w4.heap.size (some ⟨bs2, 0, none⟩) (some ⟨bf2, 0, none⟩) ps.length fs.length ps fs hp' hn' HSH'.out _ (by exact HN2.out.net) (by exact HN2.out.caps) (by simp)).mono ?_
  rintro e w5 ⟨⟨r2, rfl, hO2⟩, hb5⟩
  have z5 : w4.heap.size + 1 ≤ w5.heap.size := by have := hb5.size; simpa using this
  have hf5 : Far 0 (w4.heap.size + 1) (w4.alloc (.cells #[.slice (some ⟨bs2, 0, none⟩) ps.length ps.length, .slice (some ⟨bf2, 0, none⟩) fs.length fs.length] 33)) w5 := Far.below hb5 (by simp)
  have HEQ : Hid (can .f32 r2 = can .f32 r1) := Lib.hid (hO2.trans HR1.out.symm)
  have HN2 := Lib.hid (HN2.out.far (hf5.mono (Nat.zero_le _) (by omega)))
  have A5 := A4.below hb5 (by simp; omega)
  have X5 := X4.below hb5 (by simp)
  have HB5 := Lib.hid (HB4.out.trans (hb5.mono (by simp; omega)))
  have c0 := A5.cell 0
  have c1 := A5.cell 1
  have x0 := X5.cell 0
  have x1 := X5.cell 1
  simp at c0 c1 x0 x1
  have HA5 := Lib.hid A5
  have HX5 := Lib.hid X5
  clear A4 X4 hO2 hb5 hf5 A5 X5 HB4
  go_wp2_with fail
  refine (sameFloat _ _ (can_widen HEQ.out) _).mono ?_
  rintro e w6 ⟨rfl, q, hq⟩
  have hfq : Far 0 w5.heap.size w5 w6 := by rw [hq]; exact (Far.refl _ _ _).drewN _
  have z6 : w6.heap.size = w5.heap.size := by rw [hq]; rfl
  have HB6 : Hid (Below w.heap.size w w6) := by rw [hq]; repeat (first | exact HB5.out | refine below_dr ?_ _)
  have HN2 := Lib.hid (HN2.out.far (hfq.mono (Nat.zero_le _) (by omega)))
  have A6 := HA5.out.far hfq (Nat.zero_le _) (by omega)
  have X6 := HX5.out.far hfq (Nat.zero_le _) (by omega)
  clear c0 c1 x0 x1 hq hfq HA5 HX5 HB5
  have c0 := A6.cell 0
  have c1 := A6.cell 1
  have x0 := X6.cell 0
  have x1 := X6.cell 1
  simp at c0 c1 x0 x1
  have HA6 := Lib.hid A6
  have HX6 := Lib.hid X6
  clear A6 X6
  go_wp2_with fail
  go_region_held3 (fun w' => w'.cell? ⟨w.heap.size, 0, none⟩ = some (.slice sa ps.length cn) ∧ w'.cell? ⟨w.heap.size, 1, none⟩ = some (.slice fa fs.length cm) ∧ w'.cell? ⟨w4.heap.size, 0, none⟩ = some (.slice (some ⟨bs2, 0, none⟩) ps.length ps.length) ∧ w'.cell? ⟨w4.heap.size, 1, none⟩ = some (.slice (some ⟨bf2, 0, none⟩) fs.length fs.length)) (first | go_keep | (refine ⟨?_, ?_, ?_, ?_⟩ <;> exact keep_cell (by assumption) (by assumption)))
    ((first | (go_at_call 14; refine (toNet lo hi sa fa cn cm ps fs hp' hn' HSH'.out w6.drew (HN.out.far (Far.below HB6.out.drew hh)) (by simp; omega)).mono ?_; rintro e w7 ⟨bs3, bf3, g3, rfl, hN3, hb7⟩; have HN3 := Lib.hid hN3; have HB7 : Hid (Below w6.heap.size w6 w7) := Lib.hid ⟨hb7.os, hb7.tape, hb7.output, hb7.size, hb7.block⟩; have s0 := keep_cell HB7.out c0; have s1 := keep_cell HB7.out c1; have s2 := keep_cell HB7.out x0; have s3 := keep_cell HB7.out x1; clear hN3 hb7; unfold netV) | (go_at_call 17; refine (eqNet w3.heap.size w4.heap.size w6.heap.size w7.heap.size (some ⟨bs2, 0, none⟩) (some ⟨bf2, 0, none⟩) (some ⟨bs3, 0, none⟩) (some ⟨bf3, 0, none⟩) _ _ _ _ ps fs hp' hn' HSH'.out w7 (HN2.out.net.far (Far.below HB7.out (by omega))) HN3.out.net (by have := HB7.out.size; omega) (Nat.le_refl _)).mono ?_; rintro e w8 ⟨rfl, hb8⟩)))
  have z7 := HB7.out.size
  have z8 := hb8.size
  have B68 : Below w6.heap.size w6 w8 := HB7.out.trans (hb8.mono z7)
  have HN2 := Lib.hid (HN2.out.far (Far.below B68 (by omega)))
  have A8 := HA6.out.below B68 (by omega)
  have X8 := HX6.out.below B68 (by omega)
  have HB8 := Lib.hid (HB6.out.trans (B68.mono (by omega)))
  clear c0 c1 x0 x1 s0 s1 s2 s3 hb8 HN3 HB7 HA6 HX6 HB6 B68
  have c0 := A8.cell 0
  have c1 := A8.cell 1
  have x0 := X8.cell 0
  have x1 := X8.cell 1
  simp at c0 c1 x0 x1
  have HA8 := Lib.hid A8
  have HX8 := Lib.hid X8
  clear A8 X8
  go_wp2_with fail
  go_ret
  exact ⟨rfl, HB8.out⟩
end Go.Proofs.Ytbmahankleijkaa

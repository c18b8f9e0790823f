/- SpeedPlan: the law: copies, comparisons, marks. -/
import Derived.Test.YtbmgjohkgcfodaaSpJ
namespace Go.Fl
open Go.RowKit
theorem rowOwn {w : World} {b n : Nat} {T : TypeId} {f : Nat → Value} {xs : List Nat} (h : w.rowIs b T n f) (hn : n = xs.length) (hf : ∀ i, i < n → f i = .float .f32 (xs.getD i 0)) : OwnF1 w b xs := by
  subst hn
  refine ⟨?_, fun i hi => by rw [h.cell hi, hf i hi]⟩
  obtain ⟨cs, h1, h2, h3⟩ := h
  exact ⟨cs, T, h1, Nat.le_of_eq h2.symm⟩
theorem OwnF1.rd {w : World} {b : Nat} {xs : List Nat} (h : OwnF1 w b xs) : RdF w b (b + 1) (some ⟨b, 0, none⟩) xs := fun _ => ⟨b, 0, rfl, Nat.le_refl _, Nat.lt_succ_self _, fun i hi => by rw [Nat.zero_add]; exact h.2 i hi⟩
theorem OwnF1.at {w : World} {b : Nat} {xs : List Nat} (h : OwnF1 w b xs) : ∀ i, i < xs.length → w.cell? ⟨b, 0 + i, none⟩ = some (.float .f32 (nF xs i)) := fun i hi => by rw [Nat.zero_add]; exact h.2 i hi
theorem OwnF1.only {w w' : World} {b c : Nat} {xs : List Nat} (h : OwnF1 w b xs) (ho : Only (fun x => x = c) w w') (hb : b ≠ c) : OwnF1 w' b xs :=
  ⟨ho.room _ _ h.1, fun i hi => (ho.cell (b := b) (o := i) hb).trans (h.2 i hi)⟩
theorem OwnF1.lt {w : World} {b : Nat} {xs : List Nat} (h : OwnF1 w b xs) : b < w.heap.size := h.1.lt
end Go.Fl
namespace Go.Proofs.Ytbmgjohkgcfodaa
open Go.RowKit Go.Fl
theorem stepF (xs : List Nat) (j k : Nat) : (if j = k then Value.float .f32 (nF xs k) else .float .f32 (if j < k then nF xs j else 0)) = .float .f32 (if j < k + 1 then nF xs j else 0) := by
  by_cases h : j = k
  · subst h; simp
  · by_cases h2 : j < k
    · rw [if_neg h, if_pos h2, if_pos (by omega)]
    · rw [if_neg h, if_neg h2, if_neg (by omega)]
set_option maxHeartbeats 1000000 in
theorem toF (lo hi : Nat) (ao : Option Addr) (c : Nat) (xs : List Nat) (hn : xs.length ≤ 1048576) (w : World) (hs : RdF w lo hi ao xs) (hh : hi ≤ w.heap.size) :
    Calls Try.prog 5 #[.slice ao xs.length c] w fun e w' => e = .returned (.slice (some ⟨w.heap.size, 0, none⟩) xs.length xs.length) ∧ OwnF1 w' w.heap.size xs ∧ w'.heap.size = w.heap.size + 1 ∧ Below w.heap.size w w' := by
  have HS := Lib.hid hs
  clear hs
  have hmk := run_make_row' (P := Try.prog) 22 23 (.float .f32 0) 4 Try.underlying22 infoF rfl .i64 .i64 xs.length (by omega) (by omega)
  go_enter Try.func5, Try.ntmps5
  go_wp2_with fail
  go_loopw [4] (fun i wr => ∃ (k : Nat), k ≤ xs.length ∧ i = .int .i64 k ∧ wr.rowIs w.heap.size 23 xs.length (fun j => .float .f32 (if j < k then nF xs j else 0)) ∧ wr.heap.size = w.heap.size + 1 ∧ Below w.heap.size w wr) (fun i _ => xs.length - (intOf i).toNat)
  case atStart => exact ⟨0, by omega, rfl, (World.rowIs_made _ _ _ _).congr (fun i _ => rfl), by simp, by (repeat (first | exact Below.refl _ _ | assumption | refine below_dr ?_ _ | refine Below.alloc ?_ (by first | omega | (simp; done) | (simp; omega)) _ | refine Below.setCell ?_ (by first | omega | (simp; done) | (simp; omega)) _ | refine Below.trans ?_ (Below.mono (by assumption) (by first | omega | (simp; done) | (simp; omega)))))⟩
  case round =>
    obtain ⟨k, hk, rfl, hrow, hsz, hb⟩ := hrel
    clear hmk
    by_cases hlt : k < xs.length
    · obtain ⟨b, off, rfl, hb1, hb2, hc⟩ := (HS.out.far (Far.below hb hh)) (by omega)
      have hc1 := hc k hlt
      have hd1 := hrow.cell hlt
      have hd2 := hrow.frozen k
      clear hc
      go_wp2_with fail
      go_roundw
      case rel => exact ⟨k + 1, by omega, by go_num, (hrow.set k _).congr (fun j _ => stepF xs j k), by simpa using hsz, hb.setCell (by simp) _⟩
      case measure => simp [intOf]; omega
    · go_wp2_with fail
      go_ret
      have hkk : k = xs.length := by omega
      subst hkk
      exact ⟨rfl, rowOwn hrow rfl (fun i hi => by rw [if_pos hi]; rfl), hsz, hb⟩
set_option maxHeartbeats 1000000 in
theorem eqFN (b1 o1 b2 o2 ca cb : Nat) (xs : List Nat) (hn : xs.length ≤ 1048576) (w : World) (ha : ∀ i, i < xs.length → w.cell? ⟨b1, o1 + i, none⟩ = some (.float .f32 (nF xs i))) (hb : ∀ i, i < xs.length → w.cell? ⟨b2, o2 + i, none⟩ = some (.float .f32 (nF xs i))) :
    Calls Try.prog 7 #[.slice (some ⟨b1, o1, none⟩) xs.length ca, .slice (some ⟨b2, o2, none⟩) xs.length cb] w fun e w' => e = .returned (.bool true) ∧ ∃ n, w' = w.drewN n := by
  have HA := Lib.hid ha
  have HB := Lib.hid hb
  clear ha hb
  go_enter Try.func7, Try.ntmps7
  go_wp2_with fail
  go_loopw [5] (fun i wr => ∃ k q : Nat, k ≤ xs.length ∧ i = .int .i64 k ∧ wr = w.drewN q) (fun i _ => xs.length - (intOf i).toNat)
  case atStart => exact ⟨0, 0, by omega, rfl, rfl⟩
  case round =>
    obtain ⟨k, q, hk, rfl, rfl⟩ := hrel
    by_cases hlt : k < xs.length
    · have c1 := HA.out k hlt
      have c2 := HB.out k hlt
      obtain ⟨x, hx⟩ : ∃ x, x = nF xs k := ⟨_, rfl⟩
      rw [← hx] at c1 c2
      clear hx
      have k0 : (0 : Int) ≤ (k : Int) := by omega
      have k1 : (k : Int) < (xs.length : Int) := by omega
      go_wp2_with fail
      go_region_held (fun w' => w'.cell? ⟨b1, o1 + k, none⟩ = some (.float .f32 x) ∧ w'.cell? ⟨b2, o2 + k, none⟩ = some (.float .f32 x)) (refine ⟨?_, ?_⟩ <;> first | exact c1 | exact c2)
        ((go_at_call 8; refine (sameFloat _ _ (can_widen rfl) _).mono ?_; rintro e w3 ⟨rfl, q3, rfl⟩))
      all_goals
        go_wp2_with fail
        go_roundw
        case rel => exact ⟨k + 1, _, by omega, by go_num, by first | rfl | (simp only [World.drewN_drewN]; rfl)⟩
        case measure => simp [intOf]; omega
    · go_wp2_with fail
      go_ret
      exact ⟨rfl, _, rfl⟩
theorem eqN (w : World) : Calls Try.prog 7 #[.slice none 0 0, .slice none 0 0] w fun e w' => e = .returned (.bool true) ∧ ∃ n, w' = w.drewN n := by
  go_enter Try.func7, Try.ntmps7
  go_wp2_with fail
  go_loopw [5] (fun i wr => i = .int .i64 0 ∧ wr = w) (fun _ _ => 0)
  case atStart => exact ⟨rfl, rfl⟩
  case round =>
    obtain ⟨rfl, rfl⟩ := hrel
    go_wp2_with fail
    go_ret
    exact ⟨rfl, 0, rfl⟩
theorem markN (w : World) : Calls Try.prog 9 #[.slice none 0 0, .int .i64 1] w fun e w' => e = .returned (.int .i64 1) ∧ w' = w := by
  go_enter Try.func9, Try.ntmps9
  go_wp2_with fail
  go_loopw [1, 5] (fun k i wr => k = .int .i64 1 ∧ i = .int .i64 0 ∧ wr = w) (fun _ _ _ => 0)
  case atStart => exact ⟨rfl, rfl, rfl⟩
  case round =>
    obtain ⟨rfl, rfl, rfl⟩ := hrel
    go_wp2_with fail
    go_ret
    exact ⟨rfl, rfl⟩
set_option maxHeartbeats 2000000 in
theorem fnSpeedOk (a : Option Addr) (bs : List Nat) (ca mb rb : Nat) (hn : bs.length ≤ 1048576) (w : World) (hr : RdF w 0 w.heap.size a bs) (V : List Nat) (S : Nat)
    (hs : ∀ lo hi a w, RdF w lo hi a bs → hi ≤ w.heap.size → ∀ ca, Calls Try.prog 4 #[.slice a bs.length ca, .float .f32 mb, .float .f32 rb] w fun e w' => (∃ b c s, e = .returned (.tuple #[.slice (some ⟨b, 0, none⟩) V.length c, .float .f32 s, .bool true]) ∧ F32 s S ∧ w.heap.size ≤ b ∧ b < w'.heap.size ∧ OwnF1 w' b V) ∧ Below w.heap.size w w')
    (hi : ∀ lo hi a w, RdF w lo hi a bs → hi ≤ w.heap.size → ∀ ca, Calls Try.prog 6 #[.slice a bs.length ca, .float .f32 mb, .float .f32 rb] w fun e w' => (∃ b c s, e = .returned (.tuple #[.slice (some ⟨b, 0, none⟩) V.length c, .float .f32 s, .bool true]) ∧ F32 s S ∧ w.heap.size ≤ b ∧ b < w'.heap.size ∧ OwnF1 w' b V) ∧ Below w.heap.size w w')
    (hV : V.length ≤ 1048576) :
    Calls Try.prog 3 #[.slice a bs.length ca, .float .f32 mb, .float .f32 rb] w fun e w' => e = .returned (.bool true) ∧ Below w.heap.size w w' := by
  have HR := Lib.hid hr
  have HSP := Lib.hid hs
  have HIM := Lib.hid hi
  have hbig : ¬ (1048576 : Int) < (bs.length : Int) := by omega
  clear hr hs hi
  go_enter Try.func3, Try.ntmps3
  go_wp2_with fail
  refine (toF 0 _ a ca bs hn _ HR.out (Nat.le_refl _)).mono ?_
  rintro e w1 ⟨rfl, ho1, hz1, hb1⟩
  have HO1 := Lib.hid ho1
  have HB1 := Lib.hid hb1
  have hl1 := ho1.lt
  clear ho1 hb1 hz1
  go_wp2_with fail
  refine (HSP.out _ _ _ _ (OwnF1.rd HO1.out) hl1 _).mono ?_
  rintro e w2 ⟨⟨bw, cw, sw, rfl, hsw, hw1, hw2, how⟩, hb2⟩
  have HB2 := Lib.hid (HB1.out.trans (hb2.mono HB1.out.size))
  have HW := Lib.hid how
  have HSW := Lib.hid hsw
  clear hsw how hb2
  go_wp2_with fail
  refine (toF 0 _ a ca bs hn _ (HR.out.far (Far.below HB2.out (Nat.le_refl _))) HB2.out.size).mono ?_
  rintro e w3 ⟨rfl, ho3, hz3, hb3⟩
  have HX := Lib.hid ho3
  have HB3 := Lib.hid (HB2.out.trans (hb3.mono HB2.out.size))
  have HW3 := Lib.hid (HW.out.below hb3 hw2)
  have hl3 := ho3.lt
  have hbw3 := hb3.size
  clear ho3 hb3 hz3
  go_wp2_with fail
  refine (HIM.out _ _ _ _ (OwnF1.rd HX.out) hl3 _).mono ?_
  rintro e w4 ⟨⟨bg, cg, sg, rfl, hsg, hg1, hg2, hog⟩, hb4⟩
  have HB4 := Lib.hid (HB3.out.trans (hb4.mono HB3.out.size))
  have HG := Lib.hid hog
  have HSG := Lib.hid hsg
  have HW4 := Lib.hid (HW3.out.below hb4 (by omega))
  have HX4 := Lib.hid (HX.out.below hb4 hl3)
  have hbw4 := hb4.size
  clear hsg hog hb4
  go_wp2_with fail
  refine (eqFN _ 0 _ 0 _ _ V hV _ (OwnF1.at HG.out) (OwnF1.at HW4.out)).mono ?_
  rintro e w5 ⟨rfl, q5, rfl⟩
  go_wp2_with fail
  refine (sameFloat _ _ (can_widen (show can .f32 sg = can .f32 sw from HSG.out.trans HSW.out.symm)) _).mono ?_
  rintro e w6 ⟨rfl, q6, rfl⟩
  go_wp2_with fail
  refine (toF 0 _ a ca bs hn _ (HR.out.far (Far.below (below_dr HB4.out _) (Nat.le_refl _))) (below_dr HB4.out _).size).mono ?_
  rintro e w7 ⟨rfl, ho7, hz7, hb7⟩
  have HB7 := Lib.hid ((below_dr HB4.out _).trans (hb7.mono (below_dr HB4.out _).size))
  have HW7 := Lib.hid (OwnF1.below (show OwnF1 (w4.drewN _) bw V from HW4.out) hb7 (show bw < w4.heap.size by omega))
  have HG7 := Lib.hid (OwnF1.below (show OwnF1 (w4.drewN _) bg V from HG.out) hb7 (show bg < w4.heap.size by omega))
  have HX7 := Lib.hid (OwnF1.below (show OwnF1 (w4.drewN _) w2.heap.size bs from HX4.out) hb7 (show w2.heap.size < w4.heap.size by omega))
  have hbw7 : w4.heap.size ≤ w7.heap.size := hb7.size
  have HO7 := Lib.hid ho7
  clear ho7 hz7 hb7
  go_wp2_with fail
  refine (eqFN _ 0 _ 0 _ _ bs hn _ (OwnF1.at HX7.out) (OwnF1.at HO7.out)).mono ?_
  rintro e w8 ⟨rfl, q8, rfl⟩
  go_wp2_with fail
  refine (markF w2.heap.size bs.length _ 1 hn (by decide) (by decide) _ (show Room (w7.drewN _) w2.heap.size bs.length from HX7.out.1)).mono ?_
  rintro e w9 ⟨rfl, _, hon9⟩
  have HW9 := Lib.hid (OwnF1.only (show OwnF1 (w7.drewN _) bw V from HW7.out) hon9 (by omega))
  have HG9 := Lib.hid (OwnF1.only (show OwnF1 (w7.drewN _) bg V from HG7.out) hon9 (by omega))
  have hsz1 := HB2.out.size
  have HB9 := Lib.hid ((below_dr HB7.out _).trans (hon9.below (fun c hc => by omega)))
  have hz9 : w9.heap.size = w7.heap.size := hon9.size
  have hle9 : w7.heap.size ≤ w9.heap.size := Nat.le_of_eq hz9.symm
  have kk : ¬ (1 : Int) + (bs.length : Int) < 0 := by omega
  clear hon9 hz9
  go_wp2_with fail
  refine (eqFN _ 0 _ 0 _ _ V hV _ (OwnF1.at HG9.out) (OwnF1.at HW9.out)).mono ?_
  rintro e w10 ⟨rfl, q10, rfl⟩
  go_wp2_with fail
  refine (sameFloat _ _ (can_widen (show can .f32 sg = can .f32 sw from HSG.out.trans HSW.out.symm)) _).mono ?_
  rintro e w11 ⟨rfl, q11, rfl⟩
  go_wp2_with fail
  refine (markF bg V.length _ 1 hV (by decide) (by decide) _ (show Room (w9.drewN _) bg V.length from HG9.out.1)).mono ?_
  rintro e w12 ⟨rfl, hsl, hon12⟩
  have HW12 := Lib.hid (OwnF1.only (show OwnF1 (w9.drewN _) bw V from HW9.out) hon12 (by omega))
  have HS12 := Lib.hid hsl
  have HB12 := Lib.hid ((below_dr HB9.out _).trans (hon12.below (fun c hc => by omega)))
  have hz12 : w12.heap.size = w9.heap.size := hon12.size
  have hle12 : w9.heap.size ≤ w12.heap.size := Nat.le_of_eq hz12.symm
  have kv : ¬ (1 : Int) + (V.length : Int) < 0 := by omega
  clear hsl hon12 hz12
  go_wp2_with fail
  refine (heldF bg (bg + 1) _ V.length _ 1 hV (by decide) (by decide) _ HS12.out).mono ?_
  rintro e w13 ⟨rfl, q13, rfl⟩
  go_wp2_with fail
  refine (toF 0 _ a ca bs hn _ (HR.out.far (Far.below (below_dr HB12.out _) (Nat.le_refl _))) (below_dr HB12.out _).size).mono ?_
  rintro e w14 ⟨rfl, ho14, hz14, hb14⟩
  have HB14 := Lib.hid ((below_dr HB12.out _).trans (hb14.mono (below_dr HB12.out _).size))
  have HW14 := Lib.hid (OwnF1.below (show OwnF1 (w12.drewN _) bw V from HW12.out) hb14 (show bw < w12.heap.size by omega))
  have HS14 := Lib.hid ((show SlK (w12.drewN _) bg (bg + 1) _ V.length 1 from HS12.out).far (Far.below hb14 (show bg + 1 ≤ w12.heap.size by omega)))
  have HO14 := Lib.hid ho14
  have hl14 := ho14.lt
  have hbw14 : w12.heap.size ≤ w14.heap.size := hb14.size
  clear ho14 hz14 hb14
  go_wp2_with fail
  refine (HIM.out _ _ _ _ (OwnF1.rd HO14.out) hl14 _).mono ?_
  rintro e w15 ⟨⟨bh, ch, sh, rfl, hsh, hh1, hh2, hoh⟩, hb15⟩
  have HB15 := Lib.hid (HB14.out.trans (hb15.mono HB14.out.size))
  have HH := Lib.hid hoh
  have HSH := Lib.hid hsh
  have HW15 := Lib.hid (HW14.out.below hb15 (by omega))
  have HS15 := Lib.hid (HS14.out.far (Far.below hb15 (by omega)))
  clear hsh hoh hb15
  go_wp2_with fail
  refine (eqFN _ 0 _ 0 _ _ V hV _ (OwnF1.at HH.out) (OwnF1.at HW15.out)).mono ?_
  rintro e w16 ⟨rfl, q16, rfl⟩
  go_wp2_with fail
  refine (sameFloat _ _ (can_widen (show can .f32 sh = can .f32 sw from HSH.out.trans HSW.out.symm)) _).mono ?_
  rintro e w17 ⟨rfl, q17, rfl⟩
  go_wp2_with fail
  refine (heldF bg (bg + 1) _ V.length _ 1 hV (by decide) (by decide) _ (show SlK (w15.drewN _) bg (bg + 1) _ V.length 1 from HS15.out)).mono ?_
  rintro e w18 ⟨rfl, q18, rfl⟩
  go_wp2_with fail
  go_ret
  exact ⟨rfl, below_dr HB15.out _⟩
set_option maxHeartbeats 2000000 in
theorem fnSpeedNo (a : Option Addr) (bs : List Nat) (ca mb rb : Nat) (hn : bs.length ≤ 1048576) (w : World) (hr : RdF w 0 w.heap.size a bs)
    (hs : ∀ lo hi a w, RdF w lo hi a bs → hi ≤ w.heap.size → ∀ ca, Calls Try.prog 4 #[.slice a bs.length ca, .float .f32 mb, .float .f32 rb] w fun e w' => e = .returned (.tuple #[.slice none 0 0, .float .f32 0, .bool false]) ∧ Below w.heap.size w w')
    (hi : ∀ lo hi a w, RdF w lo hi a bs → hi ≤ w.heap.size → ∀ ca, Calls Try.prog 6 #[.slice a bs.length ca, .float .f32 mb, .float .f32 rb] w fun e w' => e = .returned (.tuple #[.slice none 0 0, .float .f32 0, .bool false]) ∧ Below w.heap.size w w') :
    Calls Try.prog 3 #[.slice a bs.length ca, .float .f32 mb, .float .f32 rb] w fun e w' => e = .returned (.bool true) ∧ Below w.heap.size w w' := by
  have HR := Lib.hid hr
  have HSP := Lib.hid hs
  have HIM := Lib.hid hi
  have hbig : ¬ (1048576 : Int) < (bs.length : Int) := by omega
  clear hr hs hi
  go_enter Try.func3, Try.ntmps3
  go_wp2_with fail
  refine (toF 0 _ a ca bs hn _ HR.out (Nat.le_refl _)).mono ?_
  rintro e w1 ⟨rfl, ho1, hz1, hb1⟩
  have HO1 := Lib.hid ho1
  have HB1 := Lib.hid hb1
  have hl1 := ho1.lt
  clear ho1 hb1 hz1
  go_wp2_with fail
  refine (HSP.out _ _ _ _ (OwnF1.rd HO1.out) hl1 _).mono ?_
  rintro e w2 ⟨rfl, hb2⟩
  have HB2 := Lib.hid (HB1.out.trans (hb2.mono HB1.out.size))
  clear hb2
  go_wp2_with fail
  refine (toF 0 _ a ca bs hn _ (HR.out.far (Far.below HB2.out (Nat.le_refl _))) HB2.out.size).mono ?_
  rintro e w3 ⟨rfl, ho3, hz3, hb3⟩
  have HX := Lib.hid ho3
  have HB3 := Lib.hid (HB2.out.trans (hb3.mono HB2.out.size))
  have hl3 := ho3.lt
  have hbw3 := hb3.size
  clear ho3 hb3 hz3
  go_wp2_with fail
  refine (HIM.out _ _ _ _ (OwnF1.rd HX.out) hl3 _).mono ?_
  rintro e w4 ⟨rfl, hb4⟩
  have HB4 := Lib.hid (HB3.out.trans (hb4.mono HB3.out.size))
  have HX4 := Lib.hid (HX.out.below hb4 hl3)
  have hbw4 := hb4.size
  clear hb4
  go_wp2_with fail
  refine (eqN _).mono ?_
  rintro e w5 ⟨rfl, q5, rfl⟩
  go_wp2_with fail
  refine (sameFloat _ _ (can_widen rfl) _).mono ?_
  rintro e w6 ⟨rfl, q6, rfl⟩
  go_wp2_with fail
  refine (toF 0 _ a ca bs hn _ (HR.out.far (Far.below (below_dr HB4.out _) (Nat.le_refl _))) (below_dr HB4.out _).size).mono ?_
  rintro e w7 ⟨rfl, ho7, hz7, hb7⟩
  have HB7 := Lib.hid ((below_dr HB4.out _).trans (hb7.mono (below_dr HB4.out _).size))
  have HX7 := Lib.hid (OwnF1.below (show OwnF1 (w4.drewN _) w2.heap.size bs from HX4.out) hb7 (show w2.heap.size < w4.heap.size by omega))
  have hbw7 : w4.heap.size ≤ w7.heap.size := hb7.size
  have HO7 := Lib.hid ho7
  clear ho7 hz7 hb7
  go_wp2_with fail
  refine (eqFN _ 0 _ 0 _ _ bs hn _ (OwnF1.at HX7.out) (OwnF1.at HO7.out)).mono ?_
  rintro e w8 ⟨rfl, q8, rfl⟩
  go_wp2_with fail
  refine (markF w2.heap.size bs.length _ 1 hn (by decide) (by decide) _ (show Room (w7.drewN _) w2.heap.size bs.length from HX7.out.1)).mono ?_
  rintro e w9 ⟨rfl, _, hon9⟩
  have hsz1 := HB2.out.size
  have HB9 := Lib.hid ((below_dr HB7.out _).trans (hon9.below (fun c hc => by omega)))
  have kk : ¬ (1 : Int) + (bs.length : Int) < 0 := by omega
  clear hon9
  go_wp2_with fail
  refine (eqN _).mono ?_
  rintro e w10 ⟨rfl, q10, rfl⟩
  go_wp2_with fail
  refine (sameFloat _ _ (can_widen rfl) _).mono ?_
  rintro e w11 ⟨rfl, q11, rfl⟩
  go_wp2_with fail
  refine (markN _).mono ?_
  rintro e w12 ⟨rfl, rfl⟩
  go_wp2_with fail
  refine (heldF 0 0 _ 0 _ 1 (by decide) (by decide) (by decide) _ (fun h => absurd h (Nat.lt_irrefl 0))).mono ?_
  rintro e w13 ⟨rfl, q13, rfl⟩
  go_wp2_with fail
  refine (toF 0 _ a ca bs hn _ (HR.out.far (Far.below (below_dr HB9.out _) (Nat.le_refl _))) (below_dr HB9.out _).size).mono ?_
  rintro e w14 ⟨rfl, ho14, hz14, hb14⟩
  have HB14 := Lib.hid ((below_dr HB9.out _).trans (hb14.mono (below_dr HB9.out _).size))
  have HO14 := Lib.hid ho14
  have hl14 := ho14.lt
  clear ho14 hz14 hb14
  go_wp2_with fail
  refine (HIM.out _ _ _ _ (OwnF1.rd HO14.out) hl14 _).mono ?_
  rintro e w15 ⟨rfl, hb15⟩
  have HB15 := Lib.hid (HB14.out.trans (hb15.mono HB14.out.size))
  clear hb15
  go_wp2_with fail
  refine (eqN _).mono ?_
  rintro e w16 ⟨rfl, q16, rfl⟩
  go_wp2_with fail
  refine (sameFloat _ _ (can_widen rfl) _).mono ?_
  rintro e w17 ⟨rfl, q17, rfl⟩
  go_wp2_with fail
  refine (heldF 0 0 _ 0 _ 1 (by decide) (by decide) (by decide) _ (fun h => absurd h (Nat.lt_irrefl 0))).mono ?_
  rintro e w18 ⟨rfl, q18, rfl⟩
  go_wp2_with fail
  go_ret
  exact ⟨rfl, below_dr HB15.out _⟩
theorem fnSpeed (a : Option Addr) (n ca mb rb : Nat) (w : World) (hr : ∃ bs : List Nat, bs.length = n ∧ RdF w 0 w.heap.size a bs) :
    Calls Try.prog 3 #[.slice a n ca, .float .f32 mb, .float .f32 rb] w fun e w' => e = .returned (.bool true) ∧ Below w.heap.size w w' := by
  obtain ⟨bs, rfl, hr⟩ := hr
  by_cases hn : bs.length ≤ 1048576
  · by_cases hok : spOk (bs.map (can .f32)) (can .f32 mb) (can .f32 rb)
    · refine fnSpeedOk a bs ca mb rb hn w hr (spEnd (bs.map (can .f32)) (can .f32 mb) (can .f32 rb)) (spSum (bs.map (can .f32)) (spEnd (bs.map (can .f32)) (can .f32 mb) (can .f32 rb)) bs.length)
        (fun lo hi a w h1 h2 ca => (specSpeed lo hi a bs ca mb rb hn w h1 h2).mono ?_) (fun lo hi a w h1 h2 ca => (implSpeed lo hi a bs ca mb rb hn w h1 h2).mono ?_) ?_
      · rintro e w' ⟨⟨_, h⟩ | ⟨h, _⟩, hb⟩
        · exact ⟨h, hb⟩
        · exact absurd hok h
      · rintro e w' ⟨⟨_, h⟩ | ⟨h, _⟩, hb⟩
        · exact ⟨h, hb⟩
        · exact absurd hok h
      · rw [spEnd_len _ _ hok.1]
        have := hok.2.1
        omega
    · refine fnSpeedNo a bs ca mb rb hn w hr (fun lo hi a w h1 h2 ca => (specSpeed lo hi a bs ca mb rb hn w h1 h2).mono ?_) (fun lo hi a w h1 h2 ca => (implSpeed lo hi a bs ca mb rb hn w h1 h2).mono ?_)
      · rintro e w' ⟨⟨h, _⟩ | ⟨_, h⟩, hb⟩
        · exact absurd h hok
        · exact ⟨h, hb⟩
      · rintro e w' ⟨⟨h, _⟩ | ⟨_, h⟩, hb⟩
        · exact absurd h hok
        · exact ⟨h, hb⟩
  · have hbig : (1048576 : Int) < (bs.length : Int) := by omega
    go_enter Try.func3, Try.ntmps3
    go_wp2_with fail
    go_ret
    exact ⟨rfl, Below.refl _ _⟩
end Go.Proofs.Ytbmgjohkgcfodaa

/- The law FnOutlines: what it walks. -/
import Derived.Test.YtjapidajammkbaaQB10
import Derived.Test.YtjapidajammkbaaQSam2
import Derived.Test.YtjapidajammkbaaQAt
import Derived.Test.YtjapidajammkbaaQBent
namespace Go.Fl
open Go.RowKit
/-- where the first k + 1 outlines begin -/
def endsV (os : List Ol) (k : Nat) : List Value := (List.range (k + 1)).map fun i => Value.int .i64 (endAt os i : Nat)
theorem endsV_succ (os : List Ol) (k : Nat) : endsV os (k + 1) = endsV os k ++ [.int .i64 (endAt os (k + 1) : Nat)] := by simp [endsV, List.range_succ]
theorem endsV_at (os : List Ol) {k i : Nat} (h : i ≤ k) : (endsV os k)[i]? = some (.int .i64 (endAt os i : Nat)) := by
  have : i < k + 1 := by omega
  simp [endsV, this]
theorem ORow.cap_le {w : World} {e : TypeId} {size b cap n : Nat} {cs : List Value} (h : ORow w e size b cap n cs) : n ≤ cap := by
  obtain ⟨_, hr⟩ := h
  rcases hr with ⟨hn, _⟩ | ⟨g, c, cur, hv, hb, hg, h1, _⟩
  · cases hn
  · have : cap = c := (Value.slice.inj hv).2.2
    omega
theorem endAt_zero (os : List Ol) : endAt os 0 = 0 := by simp [endAt, catB]
end Go.Fl
namespace Go.Proofs.Ytjapidajammkbaa
open Go.RowKit Go.Fl

theorem infoInt : (Try.prog.info? 3).map (fun i => (i.zero, i.size, i.bytes)) = some (some (.int .i64 0), 1, 8) := by kernel_rfl
theorem wi64_id' (y : Int) (h1 : 0 ≤ y) (h2 : y < 9223372036854775808) : IntKind.i64.wrap y = y := by rw [IntKind.wrap_i64]; omega
set_option maxHeartbeats 16000000 in
set_option maxRecDepth 100000 in
theorem lawO (a1 a2 : Option Addr) (n1 n2 ca1 ca2 : Nat) (w : World) (h1 : CodeAt w w.heap.size a1 n1) (h2 : CodeAt w w.heap.size a2 n2) :
    Calls Try.prog 3 #[.slice a1 n1 ca1, .slice a2 n2 ca2] w fun e w' => e = .returned (.bool true) ∧ Below w.heap.size w w' := by
  have H1 := Lib.hid h1
  have H2 := Lib.hid h2
  clear h1 h2
  go_enter Try.func3, Try.ntmps3
  by_cases hsz : n1 ≤ 1048576 ∧ n2 ≤ 1048576
  · obtain ⟨hn1, hn2⟩ := hsz
    go_wp2_with fail
    refine (b10LongNo a1 a2 n1 n2 ca1 ca2 hn1 hn2 w).mono ?_
    rintro e w0 ⟨rfl, rfl⟩
    go_wp2_with fail
    refine (b10Outlines a1 n1 ca1 hn1 w0 H1.out).mono ?_
    rintro e w1 ⟨b, cap, os, rfl, h4, hg, hos, hb1⟩
    have HG := Lib.hid hg
    have HO := Lib.hid hos
    have HB := Lib.hid hb1
    have z1 := hb1.size
    have HE := Lib.hid (ORow.full w1 3 #[.int .i64 0] (by decide))
    clear hg hos hb1
    go_wp2_with fail
    go_loopw [36, 6] (fun i o wr => ∃ (k be ce : Nat), k ≤ os.length ∧ i = .int .i64 (k : Nat) ∧ o = .slice (some ⟨be, 0, none⟩) (k + 1) ce ∧ w1.heap.size ≤ be ∧ Hid (ORow wr 3 1 be ce (k + 1) (endsV os k)) ∧ w1.heap.size ≤ wr.heap.size ∧ Hid (OsAt wr 31 44 w0.heap.size w1.heap.size b cap os) ∧ Hid (Below w0.heap.size w0 wr)) (fun i _ _ => os.length - (intOf i).toNat)
    case atStart =>
      refine ⟨0, w1.heap.size, 1, by omega, rfl, rfl, Nat.le_refl _, ?_, by simp, Lib.hid (HO.out.far ((Far.refl _ _ _).alloc _ (Nat.le_refl _))), Lib.hid (HB.out.alloc z1 _)⟩
      have e : endsV os 0 = [.int .i64 0] := by simp [endsV, endAt_zero]
      rw [e]
      exact HE
    case round =>
      obtain ⟨k, be, ce, hk, rfl, rfl, hbe, HE, hz, HO, HB⟩ := hrel
      by_cases hlt : k < os.length
      · have hbel := HE.out.lt
        have k0 : (0 : Int) ≤ (k : Int) := by omega
        have k1 : (k : Int) < (os.length : Int) := by omega
        obtain ⟨lb1, lb2, hc1⟩ := HO.out.slO
        obtain ⟨a3, d3, c0, c1, s1⟩ := hc1 k hlt
        have hgk := HG.out _ (olAt_mem hlt)
        have HGK := Lib.hid hgk
        have S1 := Lib.hid s1
        clear hc1 s1 hgk
        have hbw : b < wr.heap.size := by omega
        have hcap : os.length ≤ cap := by
          obtain ⟨_, _, _, _, _, _, hr, _⟩ := HO.out
          exact hr.cap_le
        have hck : ¬ cap = k := by omega
        obtain ⟨m, hm⟩ : ∃ m, m = k + 1 := ⟨_, rfl⟩
        have hm0 : (0 : Int) ≤ (m : Int) := by omega
        have hm1 : (m : Int) ≤ (cap : Int) := by omega
        have hm2 : k ≤ m := by omega
        have hm3 : m - k = 1 := by omega
        have HMW := Lib.hid (show IntKind.i64.wrap ((k : Int) + 1) = (m : Int) by rw [wi64_id' _ (by omega) (by omega)]; omega)
        clear hm
        go_wp2_with fail
        refine (storeYes w0.heap.size w1.heap.size a3 d3 (olAt os k).1 (olAt os k).2 HGK.out.1 HGK.out.2 _ S1.out hz).mono ?_
        rintro e w2 ⟨rfl, hb2⟩
        obtain ⟨X, hX⟩ : ∃ X : ByteArray, X = ⟨(stoB (olAt os k).1 (olAt os k).2).toArray⟩ := ⟨_, rfl⟩
        rw [← hX]
        have hXs : X.size = (stoB (olAt os k).1 (olAt os k).2).length := by rw [hX]; show (stoB (olAt os k).1 (olAt os k).2).toArray.size = _; simp
        have hXl : X.size ≤ 1048576 := by have := stoB_le HGK.out; omega
        have HX := Lib.hid hX
        have HXS := Lib.hid hXs
        have z2 := hb2.size
        have HB2 := Lib.hid hb2
        clear hX hXs hb2
        go_wp2_with fail
        refine (implLoad X hXl w2).mono ?_
        rintro e w3 ⟨⟨a4, d4, nm, ls, ok, hj, rfl, hl4⟩, hb3⟩
        rw [HX.out] at hj
        obtain ⟨rfl, rfl, rfl⟩ := load_sto HGK.out hj
        have z3 := hb3.size
        have HB3 := Lib.hid (HB2.out.trans (hb3.mono z2))
        have HL4 := Lib.hid hl4
        obtain ⟨nm, hnm⟩ : ∃ x, x = (olAt os k).1 := ⟨_, rfl⟩
        obtain ⟨ls, hls⟩ : ∃ x, x = (olAt os k).2 := ⟨_, rfl⟩
        have c0' := keep_cell HB3.out c0
        have c1' := keep_cell HB3.out c1
        rw [← hnm] at c0'
        rw [← hls] at c1' HL4 hl4 ⊢
        rw [← hnm]
        have HNM := Lib.hid hnm
        have HLS := Lib.hid hls
        have HW3 := Lib.hid (show Below wr.heap.size wr (w3.alloc (.cells #[.string nm, .slice a4 ls.length d4] 31)) from HB3.out.alloc (by omega) _)
        have hbw3 : b < w3.heap.size := by omega
        have hbw3' : ¬ b = w3.heap.size := by omega
        have hfit := HGK.out.fits
        have hsl : ls.length ≤ 1048576 := by rw [hls]; have := hfit.1; omega
        have hsh : ∀ i, i < ls.length → (lpAt ls i).length ≤ 1048576 := by rw [hls]; exact fun i hi => (hfit.2.2 i hi).1
        have hnl : nm.size ≤ 1048576 := by rw [hnm]; have := HGK.out.1.1.2.2; omega
        have HD := Lib.hid (show decide (okOut nm ls) = true from decide_eq_true (by rw [hnm, hls]; exact HGK.out.1))
        have hV : ∀ wx : World, Below wr.heap.size wr wx → Calls Try.prog 8 #[.agg #[.string nm, .slice a3 ls.length d3]] wx fun e w' => e = .returned (.bool true) ∧ Below wx.heap.size wx w' := fun wx hx => by
          have := validOutline w0.heap.size w1.heap.size a3 d3 nm ls hnl hsl hsh wx (by rw [hls]; exact S1.out.far (Far.below hx hz)) (by have := hx.size; omega)
          rw [HD.out] at this
          exact this
        have HV := Lib.hid hV
        have hS : ∀ wx : World, Below (w3.heap.size + 1) (w3.alloc (.cells #[.string nm, .slice a4 ls.length d4] 31)) wx → Calls Try.prog 9 #[.slice (some ⟨wx.heap.size, 0, none⟩) 1 1, .slice (some ⟨b, k * 2, none⟩) 1 (cap - k)] (wx.alloc (.cells #[.string nm, .slice a4 ls.length d4] 31)) fun e w' => e = .returned (.bool true) ∧ Below wx.heap.size wx w' := fun wx hx => by
          have hxs : w3.heap.size + 1 ≤ wx.heap.size := by simpa using hx.size
          have hbx : Below wr.heap.size wr wx := HW3.out.trans (hx.mono (by omega))
          have hA : SlOo (wx.alloc (.cells #[.string nm, .slice a4 ls.length d4] 31)) 0 (wx.heap.size + 1) wx.heap.size 0 [olAt os k] := by
            refine ⟨Nat.zero_le _, Nat.lt_succ_self _, fun i hi => ?_⟩
            have hi0 : i = 0 := by simpa using hi
            subst hi0
            refine ⟨a4, d4, ?_, ?_, ?_⟩
            · rw [Lib.cell_of_heap (heap_alloc_new _ _), hnm]; rfl
            · rw [Lib.cell_of_heap (heap_alloc_new _ _), hls]; rfl
            · have f1 := LsAt.far HL4.out (((Far.refl w2.heap.size w3.heap.size w3).alloc (.cells #[.string nm, .slice a4 ls.length d4] 31) (Nat.le_refl _)).trans (Far.below hx (by omega)))
              have f2 := (LsAt.far f1 ((Far.refl w2.heap.size w3.heap.size wx).alloc (.cells #[.string nm, .slice a4 ls.length d4] 31) (by omega))).slL
              have f3 := f2.mono (Nat.zero_le _) (show w3.heap.size ≤ wx.heap.size + 1 by omega)
              rw [hls] at f3
              show SlL _ _ _ _ (olAt os k).2
              rw [hls]
              exact f3
          have hB : SlOo (wx.alloc (.cells #[.string nm, .slice a4 ls.length d4] 31)) w0.heap.size w1.heap.size b (k * 2) [olAt os k] :=
            ((HO.out.slO.one hlt).far (Far.below hbx hz)).far ((Far.refl _ _ _).alloc _ (by omega))
          have hF1 : ∀ o, o ∈ [olAt os k] → Fits o.2 := fun o ho => by
            rw [List.mem_singleton] at ho
            rw [ho]
            exact hfit
          refine (sameOutlines 0 (wx.heap.size + 1) w0.heap.size w1.heap.size wx.heap.size b (k * 2) 1 (cap - k) [olAt os k] (by simp) hF1 _ hA hB (by simp) (by simp; omega)).mono fun e w' h => ⟨h.1, (Below.alloc (Below.refl _ _) (Nat.le_refl _) _).trans (h.2.mono (by simp))⟩
        have HS := Lib.hid hS
        clear hV hS hsl hsh hnl hfit hnm hls hj hl4 hb3
        go_wp2_with fail
        have hmw := HMW.out
        refine wp_region_any (by kernel_rfl) ?_
        (try (change wpAny _ _ _ _ _ _ _ (World.drew _)))
        refine wpAny_take (i := 0) (v := ?_) rfl (by kernel_rfl) (by kernel_rfl) (by kernel_rfl) (fun _ _ _ h => h) (Or.inl ⟨by kernel_rfl, ?_⟩) ?_
        rotate_left 1
        focus (intro w; go_simp; try with_reducible rfl)
        try simp only [Act.put, List.setIfInBounds_toArray, List.set_cons_succ, List.set_cons_zero]
        refine wpAny_take (i := 1) (v := ?_) rfl (by kernel_rfl) (by kernel_rfl) (by kernel_rfl) (fun _ _ _ h => h) (Or.inl ⟨by kernel_rfl, ?_⟩) ?_
        rotate_left 1
        focus (intro w; go_simp; try with_reducible rfl)
        try simp only [Act.put, List.setIfInBounds_toArray, List.set_cons_succ, List.set_cons_zero]
        refine wpAny_take (i := 2) (v := ?_) rfl (by kernel_rfl) (by kernel_rfl) (by kernel_rfl) (fun _ _ _ h => h) (Or.inl ⟨by kernel_rfl, ?_⟩) ?_
        rotate_left 1
        focus (intro w; go_simp; try with_reducible rfl)
        try simp only [Act.put, List.setIfInBounds_toArray, List.set_cons_succ, List.set_cons_zero]
        refine wpAny_take (i := 3) (v := ?_) rfl (by kernel_rfl) (by kernel_rfl) (by kernel_rfl) (fun _ _ _ h => h) (Or.inl ⟨by kernel_rfl, ?_⟩) ?_
        rotate_left 1
        focus (intro w; go_simp; try with_reducible rfl)
        try simp only [Act.put, List.setIfInBounds_toArray, List.set_cons_succ, List.set_cons_zero]
        refine wpAny_take (i := 4) (v := ?_) rfl (by kernel_rfl) (by kernel_rfl) (by kernel_rfl) (fun _ _ _ h => h) (Or.inl ⟨by kernel_rfl, ?_⟩) ?_
        rotate_left 1
        focus (intro w; go_simp; try with_reducible rfl)
        try simp only [Act.put, List.setIfInBounds_toArray, List.set_cons_succ, List.set_cons_zero]
        refine wpAny_take (i := 5) (v := ?_) rfl (by kernel_rfl) (by kernel_rfl) (by kernel_rfl) (fun _ _ _ h => h) (Or.inl ⟨by kernel_rfl, ?_⟩) ?_
        rotate_left 1
        focus (intro w; go_simp; try with_reducible rfl)
        try simp only [Act.put, List.setIfInBounds_toArray, List.set_cons_succ, List.set_cons_zero]
        refine wpAny_take (i := 6) (v := ?_) rfl (by kernel_rfl) (by kernel_rfl) (by kernel_rfl) (fun _ _ _ h => h) (Or.inl ⟨by kernel_rfl, ?_⟩) ?_
        rotate_left 1
        focus (intro w; go_simp; try with_reducible rfl)
        try simp only [Act.put, List.setIfInBounds_toArray, List.set_cons_succ, List.set_cons_zero]
        refine wpAny_take (i := 7) (v := ?_) rfl (by kernel_rfl) (by kernel_rfl) (by kernel_rfl) (fun _ _ _ h => h) (Or.inl ⟨by kernel_rfl, ?_⟩) ?_
        rotate_left 1
        focus (intro w; go_simp; try with_reducible rfl)
        try simp only [Act.put, List.setIfInBounds_toArray, List.set_cons_succ, List.set_cons_zero]
        refine wpAny_take (i := 8) (v := ?_) rfl (by kernel_rfl) (by kernel_rfl) (by kernel_rfl) (fun _ _ _ h => h) (Or.inl ⟨by kernel_rfl, ?_⟩) ?_
        rotate_left 1
        focus (intro w; go_simp; try with_reducible rfl)
        try simp only [Act.put, List.setIfInBounds_toArray, List.set_cons_succ, List.set_cons_zero]
        refine wpAny_ready (rs := [9]) (by kernel_rfl) (by simp) ?_
        refine AllReady.cons rfl (fun K hK => ?_) AllReady.nil
        rw [if_pos (by kernel_rfl)]
        go_simp
        refine hK _ _ ?_
        clear hK K
        try simp only [Act.put, List.setIfInBounds_toArray, List.set_cons_succ, List.set_cons_zero]
        refine wpAny_ready (rs := [10]) (by kernel_rfl) (by simp) ?_
        refine AllReady.cons rfl (fun K hK => ?_) AllReady.nil
        rw [if_pos (by kernel_rfl)]
        go_simp
        refine hK _ _ ?_
        clear hK K
        try simp only [Act.put, List.setIfInBounds_toArray, List.set_cons_succ, List.set_cons_zero]
        refine wpAny_ready (rs := [11]) (by kernel_rfl) (by simp) ?_
        refine AllReady.cons rfl (fun K hK => ?_) AllReady.nil
        rw [if_pos (by kernel_rfl)]
        (go_simp; go_at_call 8; refine (HV.out _ (by first | exact HW3.out.drew | exact below_dr HW3.out _)).mono ?_; rintro e w5 ⟨rfl, hb5⟩; have hb5' : Below (w3.heap.size + 1) (w3.alloc (.cells #[.string nm, .slice a4 ls.length d4] 31)) w5 := ⟨hb5.os, hb5.tape, hb5.output, (by simpa using hb5.size), fun q hq => hb5.block q (by simpa using hq)⟩; have HB5 := Lib.hid hb5'; have hb5r : Below (w3.alloc (.cells #[.string nm, .slice a4 ls.length d4] 31)).heap.size (w3.alloc (.cells #[.string nm, .slice a4 ls.length d4] 31)) w5 := ⟨hb5.os, hb5.tape, hb5.output, hb5.size, hb5.block⟩; have e0 := keep_cell hb5r (show (w3.alloc (.cells #[.string nm, .slice a4 ls.length d4] 31)).cell? ⟨w3.heap.size, 0, none⟩ = some (.string nm) by rw [Lib.cell_of_heap (heap_alloc_new _ _)]; rfl); have e1 := keep_cell hb5r (show (w3.alloc (.cells #[.string nm, .slice a4 ls.length d4] 31)).cell? ⟨w3.heap.size, 1, none⟩ = some (.slice a4 ls.length d4) by rw [Lib.cell_of_heap (heap_alloc_new _ _)]; rfl); clear hb5 hb5' hb5r)
        refine hK _ _ ?_
        clear hK K
        try simp only [Act.put, List.setIfInBounds_toArray, List.set_cons_succ, List.set_cons_zero]
        refine wpAny_take (i := 12) (v := ?_) rfl (by kernel_rfl) (by kernel_rfl) (by kernel_rfl) (fun _ _ _ h => h) (Or.inl ⟨by kernel_rfl, ?_⟩) ?_
        rotate_left 1
        focus (intro w; go_simp; try with_reducible rfl)
        try simp only [Act.put, List.setIfInBounds_toArray, List.set_cons_succ, List.set_cons_zero]
        refine wpAny_take (i := 13) (v := ?_) rfl (by kernel_rfl) (by kernel_rfl) (by kernel_rfl) (fun _ _ _ h => h) (Or.inl ⟨by kernel_rfl, ?_⟩) ?_
        rotate_left 1
        focus (intro w; go_simp; try with_reducible rfl)
        try simp only [Act.put, List.setIfInBounds_toArray, List.set_cons_succ, List.set_cons_zero]
        refine wpAny_take (i := 14) (v := ?_) rfl (by kernel_rfl) (by kernel_rfl) (by kernel_rfl) (fun _ _ _ h => h) (Or.inl ⟨by kernel_rfl, ?_⟩) ?_
        rotate_left 1
        focus (intro w; go_simp; try with_reducible rfl)
        try simp only [Act.put, List.setIfInBounds_toArray, List.set_cons_succ, List.set_cons_zero]
        refine wpAny_take (i := 17) (v := ?_) rfl (by kernel_rfl) (by kernel_rfl) (by kernel_rfl) (fun _ _ _ h => h) (Or.inl ⟨by kernel_rfl, ?_⟩) ?_
        rotate_left 1
        focus (intro w; go_simp; try with_reducible rfl)
        try simp only [Act.put, List.setIfInBounds_toArray, List.set_cons_succ, List.set_cons_zero]
        refine wpAny_take (i := 18) (v := ?_) rfl (by kernel_rfl) (by kernel_rfl) (by kernel_rfl) (fun _ _ _ h => h) (Or.inl ⟨by kernel_rfl, ?_⟩) ?_
        rotate_left 1
        focus (intro w; go_simp; try with_reducible rfl)
        try simp only [Act.put, List.setIfInBounds_toArray, List.set_cons_succ, List.set_cons_zero]
        refine wpAny_take (i := 19) (v := ?_) rfl (by kernel_rfl) (by kernel_rfl) (by kernel_rfl) (fun _ _ _ h => h) (Or.inl ⟨by kernel_rfl, ?_⟩) ?_
        rotate_left 1
        focus (intro w; go_simp; try with_reducible rfl)
        try simp only [Act.put, List.setIfInBounds_toArray, List.set_cons_succ, List.set_cons_zero]
        refine wpAny_take (i := 20) (v := ?_) rfl (by kernel_rfl) (by kernel_rfl) (by kernel_rfl) (fun _ _ _ h => h) (Or.inl ⟨by kernel_rfl, ?_⟩) ?_
        rotate_left 1
        focus (intro w; go_simp; try with_reducible rfl)
        try simp only [Act.put, List.setIfInBounds_toArray, List.set_cons_succ, List.set_cons_zero]
        refine wpAny_take (i := 21) (v := ?_) rfl (by kernel_rfl) (by kernel_rfl) (by kernel_rfl) (fun _ _ _ h => h) (Or.inl ⟨by kernel_rfl, ?_⟩) ?_
        rotate_left 1
        focus (intro w; go_simp; try with_reducible rfl)
        try simp only [Act.put, List.setIfInBounds_toArray, List.set_cons_succ, List.set_cons_zero]
        refine wpAny_ready (rs := [15]) (by kernel_rfl) (by simp) ?_
        refine AllReady.cons rfl (fun K hK => ?_) AllReady.nil
        rw [if_pos (by kernel_rfl)]
        go_simp
        refine hK _ _ ?_
        clear hK K
        try simp only [Act.put, List.setIfInBounds_toArray, List.set_cons_succ, List.set_cons_zero]
        refine wpAny_ready (rs := [16]) (by kernel_rfl) (by simp) ?_
        refine AllReady.cons rfl (fun K hK => ?_) AllReady.nil
        rw [if_pos (by kernel_rfl)]
        go_simp
        refine hK _ _ ?_
        clear hK K
        try simp only [Act.put, List.setIfInBounds_toArray, List.set_cons_succ, List.set_cons_zero]
        refine wpAny_ready (rs := [22]) (by kernel_rfl) (by simp) ?_
        refine AllReady.cons rfl (fun K hK => ?_) AllReady.nil
        rw [if_pos (by kernel_rfl)]
        (go_simp; go_at_call 9; refine (HS.out _ HB5.out).mono ?_; rintro e w7 ⟨rfl, hb7⟩; have HB7 := Lib.hid hb7; clear hb7)
        refine hK _ _ ?_
        clear hK K
        try simp only [Act.put, List.setIfInBounds_toArray, List.set_cons_succ, List.set_cons_zero]
        refine wpAny_take (i := 23) (v := ?_) rfl (by kernel_rfl) (by kernel_rfl) (by kernel_rfl) (fun _ _ _ h => h) (Or.inl ⟨by kernel_rfl, ?_⟩) ?_
        rotate_left 1
        focus (intro w; go_simp; try with_reducible rfl)
        try simp only [Act.put, List.setIfInBounds_toArray, List.set_cons_succ, List.set_cons_zero]
        refine wpAny_take (i := 24) (v := ?_) rfl (by kernel_rfl) (by kernel_rfl) (by kernel_rfl) (fun _ _ _ h => h) (Or.inl ⟨by kernel_rfl, ?_⟩) ?_
        rotate_left 1
        focus (intro w; go_simp; try with_reducible rfl)
        try simp only [Act.put, List.setIfInBounds_toArray, List.set_cons_succ, List.set_cons_zero]
        clear hmw
        refine wpAny_done (by kernel_rfl) ?_ _
        have hb37 : Below wr.heap.size wr w5 := HW3.out.trans (HB5.out.mono (by omega))
        have hb7 : Below wr.heap.size wr w7 := hb37.trans (HB7.out.mono hb37.size)
        have z7 := hb7.size
        have hR7 := HE.out.below hb7 hbel
        have hcE := (hR7.cell k (by omega)).trans (endsV_at os (Nat.le_refl k))
        have he1 := endAt_succ hlt
        obtain ⟨A, hA⟩ : ∃ A, A = endAt os k := ⟨_, rfl⟩
        obtain ⟨D, hD⟩ : ∃ D, D = A + X.size := ⟨_, rfl⟩
        have hAb : endAt os (k + 1) ≤ 1048576 := by
          have l1 := catB_le (os := os.take (k + 1)) fun o ho => HG.out o (List.mem_of_mem_take ho)
          have l2 : (os.take (k + 1)).length = k + 1 := by simp; omega
          unfold endAt
          omega
        have hxs := HXS.out
        rw [← hA] at hcE
        have q0 : (A : Int) + (X.size : Int) = (D : Int) := by omega
        have q1 : (D : Int) ≤ 1048576 := by omega
        have q2 : (k : Int) + 1 - 1 = (k : Int) := by omega
        have hbe7 : be < w7.heap.size := by omega
        have hbe7' : ¬ be = w7.heap.size := by omega
        have HDE := Lib.hid (show D = endAt os (k + 1) by omega)
        have HB7w := Lib.hid hb7
        have HR7 := Lib.hid hR7
        clear hb37 hb7 hR7 he1 hA hD hAb hxs
        go_wp2_with (at_builtin; refine wpList_app2 rfl _ _ _ rfl 3 (.int .i64 0) 1 8 Try.underlying26 infoInt rfl (by decide) w7 #[.int .i64 (D : Nat)] 3 rfl (by simp [Value.oneCell']) w7.heap.size be ce (k + 1) _ rfl rfl rfl HR7.out (by omega) (by decide) ?_; intro b6 cap6 w8 hr6 hbb6 hgr6; have HR6 := Lib.hid hr6; have HB6 := Lib.hid hbb6; have HG6 := Lib.hid hgr6; clear hr6 hbb6 hgr6)
        have z8 := HG6.out.size
        have hb8 : Below w1.heap.size wr w8 := (HB7w.out.mono hz).trans (HG6.out.below hbe (by omega))
        refine ⟨⟨k + 1, b6, cap6, by omega, by go_num, rfl, by have := HB6.out; omega, ?_, by omega, Lib.hid (HO.out.far (Far.below hb8 (Nat.le_refl _))), Lib.hid (HB.out.trans (hb8.mono z1))⟩, by simp [intOf]; omega⟩
        rw [endsV_succ, ← HDE.out]
        exact HR6
      · have hkk : k = os.length := by omega
        subst hkk
        go_wp2_with fail
        obtain ⟨wa, hwa⟩ : ∃ x : World, x = wr := ⟨_, rfl⟩
        subst hwa
        refine (storeOutlines w0.heap.size w1.heap.size b cap os (by omega) HG.out _ HO.out.slO.oo hz).mono ?_
        rintro e w2 ⟨rfl, hb2⟩
        obtain ⟨S, hS⟩ : ∃ S, S = catS os := ⟨_, rfl⟩
        rw [← hS]
        have hSs : S.size = (catB os).length := by rw [hS]; show (catB os).toArray.size = _; simp
        have hSE : endAt os os.length = S.size := by unfold endAt; rw [List.take_length, hSs]
        have hSl : S.size ≤ 1048576 := by have := catB_le HG.out; omega
        have hrw : recF S 8 0 = (os, S.size) := by rw [hSs, hS]; exact rec_whole (by omega) HG.out
        have HSC := Lib.hid hS
        have HSE := Lib.hid hSE
        have HRW := Lib.hid hrw
        have z2 := hb2.size
        have HB2 := Lib.hid hb2
        clear hS hSs hSE hrw hb2
        go_wp2_with fail
        have hR3 := implRec S hSl w2
        unfold RetR at hR3
        rw [HRW.out] at hR3
        dsimp only at hR3
        refine hR3.mono ?_
        rintro e w3 ⟨b3, cap3, rfl, ho3, hb3⟩
        clear hR3
        have z3 := hb3.size
        have HB3 := Lib.hid (HB2.out.trans (hb3.mono z2))
        have HO3 := Lib.hid ho3
        have cE := (keep_cell HB3.out ((HE.out.cell os.length (by omega)).trans (endsV_at os (Nat.le_refl os.length))))
        rw [HSE.out] at cE
        have l0 : (0 : Int) ≤ (os.length : Int) := by omega
        have l1 : (os.length : Int) < ((os.length + 1 : Nat) : Int) := by omega
        clear ho3 hb3
        go_wp2_with fail
        have hF : ∀ o, o ∈ os → Fits o.2 := fun o ho => (HG.out o ho).fits
        refine (sameOutlines w2.heap.size w3.heap.size w0.heap.size w1.heap.size b3 b 0 cap3 cap os (by omega) hF w3 HO3.out.slO.oo (HO.out.slO.oo.far (Far.below HB3.out hz)) (Nat.le_refl _) (by omega)).mono ?_
        rintro e w4 ⟨rfl, hb4⟩
        have z4 := hb4.size
        have HB4 := Lib.hid (HB3.out.trans (hb4.mono (by omega)))
        clear hb4 hF cE HO3
        by_cases hS0 : S.size = 0
        · have s0 : ((S.size : Int) == 0) = true := beq_iff_eq.2 (by omega)
          go_wp2_with fail
          go_ret
          exact ⟨rfl, HB.out.trans (HB4.out.mono (by omega))⟩
        · have s0 : ((S.size : Int) == 0) = false := beq_eq_false_iff_ne.2 (by omega)
          have s1 : ¬ (S.size : Int) = 0 := by omega
          go_wp2_with fail
          have hC2 : CodeAt w4 w0.heap.size a2 n2 := H2.out.far (Far.below (HB.out.trans (HB4.out.mono (by omega))) (Nat.le_refl _))
          have HC2 := Lib.hid hC2
          clear hC2
          refine (b10At w0.heap.size a2 n2 ca2 0 256 hn2 (by decide) (by decide) (by decide) _ HC2.out).mono ?_
          rintro e w5 ⟨⟨r1, rfl, hr1⟩, rfl⟩
          go_wp2_with fail
          refine (b10At w0.heap.size a2 n2 ca2 1 256 hn2 (by decide) (by decide) (by decide) _ HC2.out).mono ?_
          rintro e w6 ⟨⟨r2, rfl, hr2⟩, rfl⟩
          obtain ⟨Q, hQ⟩ : ∃ Q, Q = 256 * r1 + r2 := ⟨_, rfl⟩
          have p0 : (256 : Int) * (r1 : Int) + (r2 : Int) = (Q : Int) := by omega
          have p1 : (Q : Int) ≤ 65535 := by omega
          have p2 : (0 : Int) ≤ (r1 : Int) := by omega
          have p3 : (r1 : Int) ≤ 255 := by omega
          have p4 : (0 : Int) ≤ (r2 : Int) := by omega
          have p5 : (r2 : Int) ≤ 255 := by omega
          obtain ⟨C, hC⟩ : ∃ C, C = Q % S.size := ⟨_, rfl⟩
          have p6 : (Q : Int) % (S.size : Int) = (C : Int) := by rw [hC]; rfl
          have hCl : C < S.size := by rw [hC]; exact Nat.mod_lt _ (by omega)
          clear hQ hC hr1 hr2
          go_wp2_with fail
          have cEk : ∀ i, i ≤ os.length → w6.cell? ⟨be, i, none⟩ = some (.int .i64 (endAt os i : Nat)) := fun i hi => keep_cell HB4.out ((HE.out.cell i (by omega)).trans (endsV_at os hi))
          have HCE := Lib.hid cEk
          clear cEk
          obtain ⟨wq, hwq⟩ : ∃ x : World, x = w6 := ⟨_, rfl⟩
          subst hwq
          go_loopw [18] (fun v wr2 => ∃ k : Nat, k ≤ os.length ∧ v = .int .i64 k ∧ Hid (endAt os k ≤ C) ∧ wr2 = wq) (fun v _ => os.length - (intOf v).toNat)
          case atStart => exact ⟨0, by omega, rfl, Lib.hid (by rw [endAt_zero]; exact Nat.zero_le _), rfl⟩
          case round =>
            obtain ⟨k, hk, rfl, HK, rfl⟩ := hrel
            have hlt2 : k < os.length := by
              rcases Nat.lt_or_ge k os.length with h | h
              · exact h
              · have e : k = os.length := by omega
                have h1 := HK.out
                rw [e, HSE.out] at h1
                omega
            have k0 : (0 : Int) ≤ (k : Int) := by omega
            have k1 : (k : Int) < (os.length : Int) := by omega
            have k2 : (k : Int) < ((os.length + 1 : Nat) : Int) := by omega
            have k3 : (k : Int) + 1 < ((os.length + 1 : Nat) : Int) := by omega
            have cK := HCE.out k hk
            have cK1 := HCE.out (k + 1) hlt2
            obtain ⟨E0, hE0⟩ : ∃ x, x = endAt os k := ⟨_, rfl⟩
            obtain ⟨E1, hE1⟩ : ∃ x, x = endAt os (k + 1) := ⟨_, rfl⟩
            rw [← hE0] at cK
            rw [← hE1] at cK1
            have HE0 := Lib.hid hE0
            have HE1 := Lib.hid hE1
            clear hE0 hE1
            by_cases hle : E1 ≤ C
            · have hle' : (E1 : Int) ≤ (C : Int) := by omega
              clear cK
              go_wp2_with fail
              go_roundw
              case rel => exact ⟨k + 1, by omega, by go_num, Lib.hid (by rw [← HE1.out]; exact hle), trivial⟩
              case measure => simp [intOf]; omega
            · have hle' : ¬ (E1 : Int) ≤ (C : Int) := by omega
              go_wp2_with fail
              have hcut : recF (S.extract 0 C) 8 0 = (os.take k, E0) := by
                rw [HE0.out]
                exact rec_cut (by omega) HG.out hlt2 HK.out (by rw [← HE1.out]; omega) (by rw [HSC.out]; rfl)
              have hex : (S.extract 0 C).size ≤ 1048576 := by rw [ByteArray.size_extract]; omega
              have htk : (os.take k).length = k := by rw [List.length_take]; omega
              have hR := implRec (S.extract 0 C) hex wr
              unfold RetR at hR
              rw [hcut] at hR
              dsimp only at hR
              rw [htk] at hR
              have HKE := Lib.hid (show E0 ≤ C by rw [HE0.out]; exact HK.out)
              clear hcut hex htk cK1 hle hle'
              refine hR.mono ?_
              rintro e w7 ⟨b7, cap7, rfl, ho7, hb7⟩
              clear hR
              have z7 := hb7.size
              have HB7 := Lib.hid hb7
              have cK7 := keep_cell hb7 cK
              clear ho7 hb7 cK
              obtain ⟨cap8, w8, hcap8, hcv, hrow, hb8, z8⟩ := conv_bytes S w7
              have hC8 : CodeAt w8 w0.heap.size a2 n2 := HC2.out.far ((Far.below HB7.out (by omega)).trans (Far.below hb8 (by omega)))
              have HC8 := Lib.hid hC8
              have cK8 : True := trivial
              have HB8 := Lib.hid (HB7.out.trans (hb8.mono z7))
              have hlS : S.data.toList.length = S.size := by simp
              have cB := hrow.cell (i := C) (by omega)
              have fB := hrow.free (i := C) (by omega)
              have HROW := Lib.hid hrow
              obtain ⟨xb, hxb⟩ : ∃ x : Nat, x = S.data.toList[C].toNat := ⟨_, rfl⟩
              rw [← hxb] at cB
              have hx255 : xb < 256 := by rw [hxb]; exact UInt8.toNat_lt _
              have x0 : (0 : Int) ≤ (xb : Int) := by omega
              have x1 : (xb : Int) < 256 := by omega
              have c0 : (0 : Int) ≤ (C : Int) := by omega
              have c1 : (C : Int) < (S.size : Int) := by omega
              have hcapI : (S.size : Int) ≤ (cap8 : Int) := by omega
              clear hrow hb8 hC8 cK8 hxb hlS
              go_wp2_with fail
              go_region_law (go_simp; go_at_call 12; refine (b10At w0.heap.size a2 n2 ca2 2 255 hn2 (by decide) (by decide) (by decide) _ (HC8.out.far (Far.drewN (Far.refl _ _ _) _))).mono ?_; rintro e w9 ⟨⟨r3, rfl, hr3⟩, rfl⟩; have y0 : (0 : Int) ≤ (r3 : Int) := (by omega); have y1 : (r3 : Int) < 255 := (by omega))
              all_goals
                obtain ⟨Z, hZ, hZ5⟩ : ∃ Z : Nat, IntKind.u8.wrap ((xb : Int) + IntKind.u8.wrap (IntKind.i64.wrap (1 + (r3 : Int)))) = (Z : Int) ∧ Z ≤ 255 := ⟨(xb + (1 + r3)) % 256, by rw [wi64_id' _ (by omega) (by omega), IntKind.wrap_u8, IntKind.wrap_u8]; omega, by omega⟩
                rw [hZ]
                obtain ⟨L, hL⟩ : ∃ L, L = S.data.toList.set C (UInt8.ofNat Z) := ⟨_, rfl⟩
                obtain ⟨w9, hw9⟩ : ∃ x : World, x = (w8.setCell ⟨w7.heap.size, C, none⟩ (.int .u8 (Z : Int))).drewN 1 := ⟨_, rfl⟩
                rw [← hw9]
                have hr9 : RowB w9 w7.heap.size 5 L := by rw [hw9, hL]; exact HROW.out.set (by simpa using hCl) hZ5
                have hb9 : Below w7.heap.size w8 w9 := by rw [hw9]; exact below_dr (Below.setCell (Below.refl _ _) (by show w7.heap.size ≤ w7.heap.size; omega) _) _
                have HB9 := Lib.hid (HB8.out.trans (hb9.mono z7))
                have z9 := hb9.size
                have hlL : L.length = S.size := by rw [hL]; simp
                obtain ⟨BS, hBS⟩ : ∃ x : ByteArray, x = ⟨L.toArray⟩ := ⟨_, rfl⟩
                obtain ⟨g1, g2, g3, g4, g5⟩ := bent_facts (k := k) (x := UInt8.ofNat Z) (S := S) (BS := BS) (by omega) HG.out HSC.out hk HK.out (by rw [hBS, hL])
                have hcw : ∀ w' n cap, Below w9.heap.size w9 w' → n ≤ S.size → (convert 22 9 (.slice (some ⟨w7.heap.size, 0, none⟩) n cap)).run Try.prog w' = .ok (.string (BS.extract 0 n)) w' := fun w' n cap hw hn => by
                  rw [hBS, ← mk_extract]
                  exact conv_back (hr9.far (Far.below hw (Nat.le_refl _)) (Nat.zero_le _) hr9.lt) n cap (by omega)
                have hcw9 := hcw w9 S.size cap8 (Below.refl _ _) (Nat.le_refl _)
                have hex : BS.extract 0 S.size = BS := by rw [← g1]; exact ByteArray.extract_zero_size
                rw [hex] at hcw9
                have HCW := Lib.hid hcw
                clear hcw hw9 hr9 hb9 hBS hL hlL hex
                have R := implRec BS (by omega) w9
                unfold RetR at R
                have h8 := recF_len BS 8 0
                obtain ⟨fs, hfs⟩ : ∃ x, x = (recF BS 8 0).1 := ⟨_, rfl⟩
                obtain ⟨O, hO⟩ : ∃ x, x = (recF BS 8 0).2 := ⟨_, rfl⟩
                rw [← hfs] at g2 g4 g5 R h8
                rw [← hO] at g3 g4 R
                clear hfs hO
                have HR := Lib.hid R
                have HG5 := Lib.hid g5
                have HG4 := Lib.hid g4
                clear g4 g5 R
                go_wp2_with fail
                refine HR.out.mono ?_
                rintro e w10 ⟨b10, cap10, rfl, ho10, hb10⟩
                have HO10 := Lib.hid ho10
                have z10 := hb10.size
                have HB10 := Lib.hid hb10
                clear ho10 hb10 hcw9
                go_wp2_with fail
                refine (storeOutlines w9.heap.size w10.heap.size b10 cap10 fs h8 HG5.out _ HO10.out.slO.oo (Nat.le_refl _)).mono ?_
                rintro e w11 ⟨rfl, hb11⟩
                have hb911 := HB10.out.trans (hb11.mono z10)
                have hcw11 := HCW.out w11 O cap8 hb911 g3
                have HBE := Lib.hid (HB9.out.trans (hb911.mono (by omega)))
                have hcat : catS fs = BS.extract 0 O := HG4.out
                have k3' : (k : Int) ≤ (fs.length : Int) := by omega
                have o0 : (0 : Int) ≤ (O : Int) := by omega
                have o1 : (O : Int) ≤ (S.size : Int) := by omega
                have o2 : (O : Int) ≤ (cap8 : Int) := by omega
                rw [hcat]
                clear hb11 hb911 hcat
                go_wp2_with fail
                go_ret
                exact ⟨rfl, HB.out.trans ((HB4.out.trans (HBE.out.mono (by omega))).mono (by omega))⟩
  · go_wp2_with fail
    refine (b10LongYes a1 a2 n1 n2 ca1 ca2 hsz w).mono ?_
    rintro e w0 ⟨rfl, rfl⟩
    go_wp2_with fail
    go_ret
    exact ⟨rfl, Below.refl _ _⟩
end Go.Proofs.Ytjapidajammkbaa

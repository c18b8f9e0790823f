/- Nets, the law: a net is drawn. -/
import Derived.Test.YtkjljajjjhfklaaNj25
namespace Go.Proofs.Ytkjljajjjhfklaa
open Go.RowKit Go.Fl
theorem z_of {ps : List Sp} (h : ∀ p ∈ ps, Bd p.2.2 0 1) (k : Nat) : Bd (pAt ps k).2.2 0 1 := by
  unfold pAt
  rw [List.getD_eq_getElem?_getD]
  cases hi : ps[k]? with
  | none => exact Bd.zero.mono (by decide) (by decide)
  | some p => exact h p (List.mem_of_getElem? hi)
theorem cB (x : Nat) (n b : Int) (h : floatOfInt .f32 n = x) (hn : n.natAbs < 16777216) (h0 : 0 ≤ n) (hb : n ≤ b) : Bd (can .f32 x) 0 b := by
  have := Bd.const x n h hn
  rw [this.isCan]
  exact this.mono h0 hb
theorem bx_SB : AllB 3 (boxP 1073741824 1077936128 1065353216 8) ∧ ∀ k, Bd (pAt (boxP 1073741824 1077936128 1065353216 8) k).2.2 0 1 := by
  have z0 : ∀ b : Int, 0 ≤ b → Bd (can .f32 0) 0 b := fun b hb => cB 0 0 b (by decide +kernel) (by decide) (by decide) hb
  have hx : Bd (can .f32 1073741824) 0 3 := cB _ 2 3 (by decide +kernel) (by decide) (by decide) (by decide)
  have hy : Bd (can .f32 1077936128) 0 3 := cB _ 3 3 (by decide +kernel) (by decide) (by decide) (by decide)
  have hz : Bd (can .f32 1065353216) 0 1 := cB _ 1 1 (by decide +kernel) (by decide) (by decide) (by decide)
  have hm : ∀ p ∈ boxP 1073741824 1077936128 1065353216 8, SB p 0 3 ∧ Bd p.2.2 0 1 := fun p hp => by
    obtain ⟨i, _, rfl⟩ := List.mem_map.1 hp
    refine ⟨⟨?_, ?_, ?_⟩, ?_⟩ <;> simp only [boxS] <;> split
    · exact hx
    · exact z0 3 (by decide)
    · exact hy
    · exact z0 3 (by decide)
    · exact hz.mono (by decide) (by decide)
    · exact z0 3 (by decide)
    · exact hz
    · exact z0 1 (by decide)
  exact ⟨AllB.of (by decide) fun p hp => (hm p hp).1, z_of fun p hp => (hm p hp).2⟩
theorem gd_SB (m k : Nat) (hm : m ≤ 3) (hk : k ≤ 4 * (m + 1)) : AllB 3 (gridP m k) ∧ ∀ j, Bd (pAt (gridP m k) j).2.2 0 1 := by
  have z0 : ∀ b : Int, 0 ≤ b → Bd (can .f32 0) 0 b := fun b hb => cB 0 0 b (by decide +kernel) (by decide) (by decide) hb
  have hI : ∀ i : Nat, i ≤ 3 → Bd (can .f32 (fI i)) 0 3 := fun i hi => cB _ (i : Int) 3 rfl (by omega) (by omega) (by omega)
  have hmm : ∀ p ∈ gridP m k, SB p 0 3 ∧ Bd p.2.2 0 1 := fun p hp => by
    obtain ⟨t, ht, rfl⟩ := List.mem_map.1 hp
    have ht := List.mem_range.1 ht
    have h1 : t % (m + 1) ≤ 3 := by have := Nat.mod_lt t (show 0 < m + 1 by omega); omega
    have h2 : t / (m + 1) ≤ 3 := by have := (Nat.div_lt_iff_lt_mul (show 0 < m + 1 by omega)).2 (show t < 4 * (m + 1) by omega); omega
    exact ⟨⟨hI _ h1, hI _ h2, z0 3 (by decide)⟩, z0 1 (by decide)⟩
  exact ⟨AllB.of (by decide) fun p hp => (hmm p hp).1, z_of fun p hp => (hmm p hp).2⟩
/-- the drawn height -/
def hgt (z r : Nat) : Nat := fadd z (fdiv (floatOfInt .f32 (r : Int)) 1082130432)
theorem hgt_ok {z r : Nat} (hz : Bd z 0 1) (hr : r < 9) : isN .f32 (fdiv (floatOfInt .f32 (r : Int)) 1082130432) = true ∧ Bd (hgt z r) 0 3 := by
  have h4 : Bd 1082130432 4 4 := Bd.const _ 4 (by decide +kernel) (by decide)
  have h1 : Bd (floatOfInt .f32 (r : Int)) 0 (2 * 4) := (Bd.const _ (r : Int) rfl (by omega)).mono (by omega) (by omega)
  have h2 := h1.quo h4 (by decide) (by decide) (by decide)
  exact ⟨h2.n, hz.add h2 (by decide) (by decide) (by decide)⟩
set_option maxHeartbeats 8000000 in
set_option maxRecDepth 100000 in
theorem l06DrawOkN (p : Nat) (a : Option Addr) (n c m : Nat) (hn : n ≤ 48) (hm : m ≤ 1000) (w : World) (hs : SrcAt w 103 p a n c m) (hp : p < w.heap.size) :
    Calls Try.prog 25 #[.pointer (some ⟨p, 0, none⟩)] w fun e w' => (∃ bv cv bf cf g cs csf ps fs, e = .returned (.agg #[.slice (some ⟨bv, 0, none⟩) ps.length cv, .slice (some ⟨bf, 0, none⟩) fs.length cf]) ∧ NetR w' w.heap.size bv cv bf cf g cs csf ps fs ∧ Shp ps.length fs ∧ AllB 3 ps) ∧ Ch (fun d => d = p) w w' := by
  have HS := Lib.hid hs
  clear hs
  go_enter Try.func25, Try.ntmps25
  go_upto_region 2 with (go_at_call 63; refine (l06BoxN 1073741824 1077936128 1065353216 _).mono ?_; rintro e w1 ⟨⟨bv, cv, bf, cf, g, cs, csf, rfl, hN⟩, hB⟩; have HN := Lib.hid hN; have HB := Lib.hid hB; clear hN hB)
  obtain ⟨wx, hwx⟩ : ∃ wx, wx = w1.alloc (.cells #[.slice (some ⟨bv, 0, none⟩) (boxP 1073741824 1077936128 1065353216 8).length cv, .slice (some ⟨bf, 0, none⟩) boxF.length cf] 27) := ⟨_, rfl⟩
  have hD : DrR w wx p a n c m 0 w1.heap.size bv cv bf cf g cs csf (boxP 1073741824 1077936128 1065353216 8) boxF := by
    have hb := HB.out
    have hN := HN.out
    simp only [World.size_alloc] at hb hN
    have hz := hb.size
    simp at hz
    have hb0 : Below w.heap.size w w1 := ((Below.refl _ _).alloc (Nat.le_refl _) _).trans (hb.mono (by omega))
    have hbl := hN.row.lt
    have hk : ∀ d, d < w1.heap.size → wx.heap[d]? = w1.heap[d]? := fun d hd => by rw [hwx]; exact Below.heap_alloc _ _ _ hd
    have hN' : NetR wx (w.heap.size + 1) bv cv bf cf g cs csf (boxP 1073741824 1077936128 1065353216 8) boxF := hN.far (fun d _ h2 => hk d h2) (by rw [hwx]; simp)
    have hres : OwnC (w.alloc (.cells #[.slice none 0 0, .slice none 0 0] 27)) w.heap.size #[.slice none 0 0, .slice none 0 0] 27 := OwnC.new rfl
    refine ⟨srcSame HS.out (fun d hd => (hk d (by omega)).trans (hb0.block d (by omega))), hp, (hk _ (by omega)).trans (hres.below hb (by omega)), by rw [hwx]; exact OwnC.new rfl, hN', by omega, by omega, by have := hN.fa.row; omega, fun k hk' => by have := hN.fa.blk k hk'; omega, .inl ⟨boxP_len _ _ _ _, rfl⟩, bx_SB.1, fun k _ => bx_SB.2 k, ?_⟩
    exact Ch.below (by rw [hwx]; exact hb0.alloc hb0.size _)
  have HD := Lib.hid hD
  rw [← hwx]
  have hob : ∃ ob, ob = w1.heap.size := ⟨_, rfl⟩
  obtain ⟨ob, hob⟩ := hob
  rw [← hob] at HD ⊢
  clear hD HN HB HS hwx hob w1
  go_upto_if 9 with (go_at_call 64; refine (oneS p a n c m 2 (by omega) (by omega) (by decide) (by decide) _ HD.out.src).mono ?_; rintro e w2 ⟨⟨q, rfl⟩, hs2, ho2⟩; have HD2 := Lib.hid (HD.out.turn ho2 hs2); clear hs2 ho2)
  clear HD
  go_cut [4, 5] from 9 to 18 (fun u4 u5 wx => ∃ (bv cv bf cf : Nat) (g : Nat → Nat) (cs csf : List Value) (ps : List Sp) (fs : List (List Int)), Hid (DrR w wx p a n c (m + 3) 0 ob bv cv bf cf g cs csf ps fs))
  case first =>
    cases q
    · go_wp2_with fail
      go_meet
      exact ⟨_, _, _, _, _, _, _, _, _, Lib.hid (HD2.out.mono (by omega))⟩
    · go_upto_region 5 with (first
        | (go_at_call 65; refine (pickS p a n c (m + 1) 3 (by omega) (by omega) (by decide) (by decide) _ HD2.out.src).mono ?_; rintro e w3 ⟨⟨m1, rfl, hm1⟩, hs3, ho3⟩; have HD3 := Lib.hid (HD2.out.turn ho3 hs3); clear hs3 ho3 HD2)
        | (go_at_call 65; refine (pickS p a n c (m + 1 + 1) 3 (by omega) (by omega) (by decide) (by decide) _ HD3.out.src).mono ?_; rintro e w4 ⟨⟨n1, rfl, hn1⟩, hs4, ho4⟩; have HD4 := Lib.hid (HD3.out.turn ho4 hs4); clear hs4 ho4 HD3))
      have e1 : (1 : Int) + (m1 : Int) = ((m1 + 1 : Nat) : Int) := by omega
      have e2 : (1 : Int) + (n1 : Int) = ((n1 + 1 : Nat) : Int) := by omega
      have o0 := HD4.out.own.free 0
      have o1 := HD4.out.own.free 1
      have o2 := HD4.out.own.cell 0
      have o3 := HD4.out.own.cell 1
      have hol := HD4.out.own.lt
      simp at o2 o3
      rw [e1, e2]
      have HG : Hid (Calls Try.prog 66 #[.int .i64 ((m1 + 1 : Nat) : Int), .int .i64 ((n1 + 1 : Nat) : Int)] w4 (RetR (gridP (m1 + 1) ((n1 + 1 + 1) * (m1 + 1 + 1))) (gridF (m1 + 1) (n1 + 1)) w4)) := Lib.hid (l06GridN (m1 + 1) (n1 + 1) (by omega) (by omega) (by omega) (by omega) w4)
      have hSh : Shp (gridP (m1 + 1) ((n1 + 1 + 1) * (m1 + 1 + 1))).length (gridF (m1 + 1) (n1 + 1)) := .inr (.inr ⟨m1, n1, hm1, hn1, by rw [gridP_len, Nat.mul_comm], rfl⟩)
      have hgd := gd_SB (m1 + 1) ((n1 + 1 + 1) * (m1 + 1 + 1)) (by omega) (Nat.mul_le_mul_right _ (by omega))
      have HSh := Lib.hid hSh
      have HGD := Lib.hid hgd
      clear hSh hgd e1 e2 hm1 hn1
      generalize m1 + 1 = M1 at *
      generalize n1 + 1 = M2 at *
      generalize gridP M1 ((M2 + 1) * (M1 + 1)) = PS at *
      generalize gridF M1 M2 = FS at *
      go_wp2_with (go_at_call 66; refine HG.out.mono ?_; rintro e w5 ⟨⟨bv5, cv5, bf5, cf5, g5, cs5, csf5, rfl, hN5⟩, hB5⟩; have HN5 := Lib.hid hN5; have HB5 := Lib.hid hB5; have O5 := HD4.out.own.below hB5 hol; have f0 := O5.free 0; have f1 := O5.free 1; have f2 := O5.cell 0; have f3 := O5.cell 1; simp at f2 f3; clear hN5 hB5)
      go_meet
      exact ⟨_, _, _, _, _, _, _, _, _, Lib.hid (HD4.out.store HB5.out HN5.out HSh.out HGD.out.1 HGD.out.2)⟩
  case rest =>
    obtain ⟨bv, cv, bf, cf, g, cs, csf, ps, fs, HD⟩ := hcut
    clear HD2 q w2
    go_upto_if 20 with (go_at_call 64; refine (oneS p a n c (m + 3) 6 (by omega) (by omega) (by decide) (by decide) _ HD.out.src).mono ?_; rintro e w2 ⟨⟨q, rfl⟩, hs2, ho2⟩; have HD2 := Lib.hid (HD.out.turn ho2 hs2); clear hs2 ho2)
    clear HD
    go_cut [6] from 20 to 33 (fun u6 wx => ∃ (bv cv bf cf : Nat) (g : Nat → Nat) (cs csf : List Value) (ps : List Sp) (fs : List (List Int)), Hid (DrR w wx p a n c (m + 4) 0 ob bv cv bf cf g cs csf ps fs))
    case first =>
      cases q
      · go_wp2_with fail
        go_meet
        exact ⟨_, _, _, _, _, _, _, _, _, Lib.hid (HD2.out.mono (by omega))⟩
      · obtain ⟨hl4, hl16, hf1, hf9⟩ := HD2.out.shp.len
        have hcv := HD2.out.net.row.cap
        have hcf := HD2.out.net.rowF.cap
        have o0 := HD2.out.own.free 0
        have o1 := HD2.out.own.free 1
        have o2 := HD2.out.own.cell 0
        have o3 := HD2.out.own.cell 1
        have hnf := HD2.out.nf
        have hnf' : ¬ bf = ob := fun e => hnf e.symm
        have hobl := HD2.out.own.lt
        have hbfl := HD2.out.net.rowF.lt
        have fb : w2.frozen? ⟨bf, 0, none⟩ = false := HD2.out.net.rowF.free 0
        obtain ⟨u0, hu0⟩ : ∃ u, w2.cell? ⟨bf, 0, none⟩ = some u := by
          rw [HD2.out.net.rowF.cell 0 (by omega)]
          cases h : csf[0]? with
          | none => have := HD2.out.net.rowF.clen; have := List.getElem?_eq_none_iff.1 h; omega
          | some u => exact ⟨u, rfl⟩
        have HQ := Lib.hid (HD2.out.quad hl4 hf1)
        simp at o2 o3
        have k4 : (4 : Int) ≤ (ps.length : Int) := by omega
        obtain ⟨np, hnp⟩ : ∃ np, np = ps.length := ⟨_, rfl⟩
        obtain ⟨nf, hnf2⟩ : ∃ nf, nf = fs.length := ⟨_, rfl⟩
        rw [← hnp] at o2 hcv hl4 hl16 k4
        rw [← hnf2] at o3 hcf hf1 hf9
        clear hnp hnf2
        go_wp2_with fail
        go_meet
        have h := HQ.out
        rw [World.setCell_alloc_past _ _ _ _ (by simp; exact hbfl)] at h
        exact ⟨_, _, _, _, _, _, _, _, _, Lib.hid h⟩
    case rest =>
      obtain ⟨bv, cv, bf, cf, g, cs, csf, ps, fs, HD⟩ := hcut
      clear HD2 q w2
      have hlen := HD.out.shp.len
      obtain ⟨L, hL⟩ : ∃ L, L = ps.length := ⟨_, rfl⟩
      have hL16 : L ≤ 16 := by omega
      clear hlen
      go_wp2_with fail
      go_loopw [6] (fun iv wr => ∃ (i : Nat) (g : Nat → Nat) (cs csf : List Value) (ps : List Sp), i ≤ L ∧ iv = .int .i64 i ∧ Hid (L = ps.length) ∧ Hid (DrR w wr p a n c (m + 4 + 2 * i) i ob bv cv bf cf g cs csf ps fs)) (fun iv _ => L - (intOf iv).toNat)
      case atStart => exact ⟨0, g, cs, csf, ps, by omega, rfl, Lib.hid hL, HD⟩
      case round =>
        clear HD hL
        obtain ⟨i, g, cs, csf, ps, hi, rfl, hL, HD⟩ := hrel
        have o0 := HD.out.own.cell 0
        simp at o0
        have hL' := hL.out
        rw [← hL'] at o0
        clear hL'
        by_cases hlt : i < L
        · go_upto_if 42 with (go_at_call 64; refine (oneS p a n c (m + 4 + 2 * i) 2 (by omega) (by omega) (by decide) (by decide) _ HD.out.src).mono ?_; rintro e w2 ⟨⟨q, rfl⟩, hs2, ho2⟩; have HD2 := Lib.hid (HD.out.turn ho2 hs2); clear hs2 ho2)
          clear HD o0
          cases q
          · go_wp2_with fail
            refine ⟨⟨i + 1, g, cs, csf, ps, by omega, by go_num, hL, Lib.hid (HD2.out.next (by omega))⟩, by simp [intOf]; omega⟩
          · go_upto_region 14 with fail
            have o0 := HD2.out.own.cell 0
            have o2 := HD2.out.own.cell 0
            simp at o0
            have hL' := hL.out
            rw [← hL'] at o0
            have hip : i < ps.length := by omega
            obtain ⟨x, y, z, e1, e2, e3, e4⟩ := HD2.out.net.sp i hip
            obtain ⟨⟨ex, ey, ez⟩, _⟩ := fin_sp e4 (HD2.out.sb i).isFin
            have hz1 : Bd z 0 1 := by rw [ez]; exact HD2.out.z1 i (Nat.le_refl _)
            have c2 : w2.cell? ⟨bv, i * 3 + 2, none⟩ = some (.float .f32 z) := (HD2.out.net.row.cell (i * 3 + 2) (by omega)).trans e3
            have fz := HD2.out.net.row.free (i * 3 + 2)
            have HSR : Hid (SrcAt w2.drew 103 p a n c (m + 4 + 2 * i + 1)) := Lib.hid HD2.out.src
            have hlti : (i : Int) < (L : Int) := by omega
            have i0 : (0 : Int) ≤ (i : Int) := by omega
            clear e1 e2 e4 ex ey ez o2 hL'
            go_region_law (first
              | (go_simp; go_at_call 65; refine (pickS p a n c (m + 4 + 2 * i + 1) 9 (by omega) (by omega) (by decide) (by decide) _ HSR.out).mono ?_; rintro e w5 ⟨⟨r, rfl, hr⟩, hs5, ho5⟩; have HD5 : Hid (DrR w w5 p a n c (m + 4 + 2 * i + 1 + 1) i ob bv cv bf cf g cs csf ps fs) := Lib.hid (HD2.out.turn ⟨ho5.os, ho5.tape, ho5.output, ho5.size, ho5.block, ho5.room⟩ hs5); obtain ⟨hq1, hq2⟩ := hgt_ok hz1 hr; have hq1' : isN .f32 (fop .quo .f32 (floatOfInt .f32 (r : Int)) 1082130432) = true := hq1; have hq3 : isN .f32 (fop .add .f32 z (fop .quo .f32 (floatOfInt .f32 (r : Int)) 1082130432)) = true := hq2.n; obtain ⟨m1, d1⟩ := run_fopN hq1'; obtain ⟨m2, d2⟩ := run_fopN hq3; have dz : ∀ w : World, w.drewN 0 = w := World.drewN_zero; have p0 := HD5.out.own.cell 0; simp at p0; rw [← hL.out] at p0; have c5 : w5.cell? ⟨bv, i * 3 + 2, none⟩ = some (.float .f32 z) := (HD5.out.net.row.cell (i * 3 + 2) (by omega)).trans e3; have f5 := HD5.out.net.row.free (i * 3 + 2); have HQ2 := Lib.hid hq2; clear hs5 ho5 hq1 hq1' hq3 hq2))
            all_goals (try go_wp2_with fail)
            all_goals
              have h := (HD5.out.height hip HQ2.out).mono (M' := m + 4 + 2 * (i + 1)) (by omega)
              refine ⟨⟨i + 1, g, _, csf, _, by omega, by go_num, Lib.hid (by rw [setZ_len]; exact hL.out), Lib.hid h⟩, by simp [intOf]; omega⟩
        · obtain rfl : i = L := by omega
          have o1 := HD.out.own.cell 1
          simp at o1
          have r0 := HD.out.res.cell 0
          have r1 := HD.out.res.cell 1
          have r2 := HD.out.res.free 0
          have r3 := HD.out.res.free 1
          simp at r0 r1
          have hh := HD.out
          go_wp2_with fail
          have R := (HD.out.res.set 0 (.slice (some ⟨bv, 0, none⟩) i cv)).set 1 (.slice (some ⟨bf, 0, none⟩) fs.length cf)
          have q0 := R.cell 0
          have q1 := R.cell 1
          simp at q0 q1
          refine bodyPost_ret (v := .agg #[.slice (some ⟨bv, 0, none⟩) i cv, .slice (some ⟨bf, 0, none⟩) fs.length cf]) (by simp [results, Try.results25, go_sem, *]) rfl ?_
          have hk : ∀ d, d ≠ w.heap.size → ((wr.setCell ⟨w.heap.size, 0, none⟩ (.slice (some ⟨bv, 0, none⟩) i cv)).setCell ⟨w.heap.size, 1, none⟩ (.slice (some ⟨bf, 0, none⟩) fs.length cf)).heap[d]? = wr.heap[d]? := fun d hd => by
            rw [Below.heap_setCell _ _ _ _ hd, Below.heap_setCell _ _ _ _ hd]
          refine ⟨⟨bv, cv, bf, cf, g, cs, csf, ps, fs, by rw [hL.out], (hh.net.far (fun d h1 _ => hk d (by omega)) (by simp)).lower (by omega), hh.shp, hh.sb⟩, hh.ch.trans (P' := fun d => d = w.heap.size) ⟨rfl, rfl, rfl, by simp, fun d _ hd => hk d hd⟩ (fun b hb => .inr (by omega))⟩
end Go.Proofs.Ytkjljajjjhfklaa

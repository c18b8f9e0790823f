/- Nets, the law: the reference's tiles, walked. -/
import Derived.Test.YtkjljajjjhfklaaNnT
namespace Go.Proofs.Ytkjljajjjhfklaa
open Go.RowKit Go.Fl
theorem gridP_next (m j : Nat) : gridP m (j + 1) = gridP m j ++ [(can .f32 (fI (j % (m + 1))), can .f32 (fI (j / (m + 1))), can .f32 0)] := by
  simp only [gridP, List.range_succ, List.map_append, List.map_cons, List.map_nil, gridS]
/-- the corners of the first k tiles -/
def tileL (m t : Nat) : List Int := let p : Nat := t / m * (m + 1) + t % m; [(p : Int), (p : Int) + 1, (p : Int) + m + 2, (p : Int) + m + 1]
def tilesL (m : Nat) : Nat → List Int
  | 0 => []
  | k + 1 => tilesL m k ++ tileL m k
theorem tilesL_len (m : Nat) : ∀ k, (tilesL m k).length = 4 * k
  | 0 => rfl
  | k + 1 => by rw [tilesL, List.length_append, tilesL_len m k]; simp [tileL]; omega
theorem tilesL_at (m : Nat) : ∀ k t s, t < k → s < 4 → iAt (tilesL m k) (4 * t + s) = iAt (tileL m t) s
  | 0, t, s, h, _ => absurd h (Nat.not_lt_zero _)
  | k + 1, t, s, h, hs => by
    rw [tilesL]
    by_cases hk : t < k
    · rw [← tilesL_at m k t s hk hs]
      unfold iAt
      rw [List.getD_eq_getElem?_getD, List.getD_eq_getElem?_getD, List.getElem?_append_left (by rw [tilesL_len]; omega)]
    · obtain rfl : t = k := by omega
      unfold iAt
      rw [List.getD_eq_getElem?_getD, List.getD_eq_getElem?_getD, List.getElem?_append_right (by rw [tilesL_len]; omega), tilesL_len]
      congr 2
      omega
theorem tiles_four (m n : Nat) : fours (tilesL m (m * n)) (m * n) = gridF m n := by
  unfold fours gridF
  refine List.map_congr_left fun t ht => ?_
  have ht := List.mem_range.1 ht
  unfold four
  have h0 := tilesL_at m (m * n) t 0 ht (by decide)
  have h1 := tilesL_at m (m * n) t 1 ht (by decide)
  have h2 := tilesL_at m (m * n) t 2 ht (by decide)
  have h3 := tilesL_at m (m * n) t 3 ht (by decide)
  rw [Nat.add_zero] at h0
  rw [h0, h1, h2, h3]
  simp only [tileL, iAt, List.getD_cons_zero, List.getD_cons_succ, List.cons.injEq, and_true, true_and]
  push_cast
  constructor <;> omega
set_option maxHeartbeats 8000000 in
set_option maxRecDepth 100000 in
theorem l06GridN (m n : Nat) (hm0 : 1 ≤ m) (hm : m ≤ 3) (hn0 : 1 ≤ n) (hn : n ≤ 3) (w : World) :
    Calls Try.prog 66 #[.int .i64 m, .int .i64 n] w (RetR (gridP m ((n + 1) * (m + 1))) (gridF m n) w) := by
  have hR0 : OwnC (w.alloc (.cells #[.slice none 0 0, .slice none 0 0] 27)) w.heap.size #[.slice none 0 0, .slice none 0 0] 27 := OwnC.new rfl
  obtain ⟨wb, hwb⟩ : ∃ wb, wb = ((w.alloc (.cells #[.slice none 0 0, .slice none 0 0] 27)).alloc (.cells #[.slice none 0 0, .slice none 0 0] 27)) := ⟨_, rfl⟩
  have hO : OwnC wb (w.heap.size + 1) #[.slice none 0 0, .slice none 0 0] 27 := by rw [hwb]; exact OwnC.new (by simp)
  have HR : Hid (OwnC wb w.heap.size #[.slice none 0 0, .slice none 0 0] 27) := Lib.hid (by rw [hwb]; exact hR0.alloc _)
  have HB : Hid (Below w.heap.size w wb) := Lib.hid (by rw [hwb]; exact ((Below.refl _ _).alloc (Nat.le_refl _) _).alloc (by simp) _)
  have hzb : wb.heap.size = w.heap.size + 1 + 1 := by rw [hwb]; simp
  have HO := Lib.hid hO
  clear hR0 hO
  obtain ⟨N, hN⟩ : ∃ N, N = (n + 1) * (m + 1) := ⟨_, rfl⟩
  have hN1 : ((m : Int) + 1) * ((n : Int) + 1) = (N : Int) := by rw [hN, Int.natCast_mul, Int.natCast_add, Int.natCast_add, Int.mul_comm]; rfl
  have hNb : N ≤ 16 := by
    rw [hN]
    have h1 : (n + 1) * (m + 1) ≤ 4 * (m + 1) := Nat.mul_le_mul_right _ (by omega)
    omega
  have HN := Lib.hid hN
  rw [← hN]
  clear hN
  have hmz : ¬ (m : Int) + 1 = 0 := by omega
  go_enter Try.func66, Try.ntmps66
  go_wp2_with fail
  rw [← hwb]
  clear hwb
  go_loopw [6] (fun iv wr => ∃ (j : Nat) (v : Value) (cs : List Value), j ≤ N ∧ iv = .int .i64 j ∧ Hid (SpI wb wr (w.heap.size + 1) (.slice none 0 0) v j (gridP m j) cs)) (fun iv _ => N - (intOf iv).toNat)
  case atStart => exact ⟨0, _, _, by omega, rfl, Lib.hid (SpI.start HO.out)⟩
  case round =>
    obtain ⟨j, v, cs, hj, rfl, HI⟩ := hrel
    have hzr := HI.out.ch.size
    have o0 := HI.out.own.cell 0
    have of := HI.out.own.free 0
    simp at o0
    by_cases hlt : j < N
    · have HROW : Hid (∀ o1, ORow0 (wr.alloc o1).drew 46 3 v j cs) := Lib.hid fun a => ORow0.below HI.out.row (below_dr ((Below.refl _ _).alloc (Nat.le_refl _) _) 1)
      have HBe : Hid (∀ o1, Below wr.heap.size wr (wr.alloc o1).drew) := Lib.hid fun a => below_dr ((Below.refl _ _).alloc (Nat.le_refl _) _) 1
      have hol : w.heap.size + 1 < wr.heap.size := by omega
      go_upto_region 5 with fail
      have o0a := fun o => keep_alloc (w := wr) o o0
      obtain ⟨J, hJ⟩ : ∃ J, J = j % (m + 1) := ⟨_, rfl⟩
      obtain ⟨D, hD⟩ : ∃ D, D = j / (m + 1) := ⟨_, rfl⟩
      have hDj : D ≤ j := by rw [hD]; exact Nat.div_le_self _ _
      have hmod : (j : Int).tmod ((m : Int) + 1) = (J : Int) := by rw [hJ]; exact (Int.ofNat_tmod j (m + 1)).symm
      have hdiv : IntKind.i64.wrap ((j : Int) / ((m : Int) + 1)) = (D : Int) := by
        have e : (j : Int) / ((m : Int) + 1) = (D : Int) := by rw [hD]; rfl
        rw [e, IntKind.wrap_i64]
        omega
      have hw : IntKind.i64.wrap ((m : Int) + 1) = (m : Int) + 1 := by rw [IntKind.wrap_i64]; omega
      have HJ := Lib.hid hJ
      have HD := Lib.hid hD
      clear hJ hD
      go_region_law (first
        | (refine step_app0 rfl _ _ _ rfl 46 (.agg #[.float .f32 0, .float .f32 0, .float .f32 0]) 3 12 Try.underlying24 infoSpot' rfl (by decide) v j cs rfl (HROW.out _) ⟨wr.heap.size, 0, none⟩ 1 1 [.float .f32 (fI J), .float .f32 (fI D), .float .f32 0] rfl rfl (World.news_of_block (show (wr.alloc _).heap[wr.heap.size]? = _ from heap_alloc_new wr _)) (by simp [Value.oneCell']) (by decide) (by omega) (by decide) ?_; intro b7 c7 w7 hr7 hb7 hl7 hg7; have HST := Lib.hid (HI.out.step (rs := [(can .f32 (fI J), can .f32 (fI D), can .f32 0)]) (by omega) (HBe.out _) rfl hg7 hr7 hb7 (HI.out.sp.snoc HI.out.clen rfl)); have o17 := HST.out.own7.cell 0; have o17f := HST.out.own7.free 0; simp at o17; clear hr7 hb7 hg7))
      all_goals (try go_wp2_with fail)
      all_goals
        refine ⟨?_, ?_⟩
        · have h := HST.out.i
          have e : gridP m j ++ [(can .f32 (fI J), can .f32 (fI D), can .f32 0)] = gridP m (j + 1) := by rw [HJ.out, HD.out, gridP_next]
          rw [e] at h
          exact ⟨j + 1, _, _, by omega, by go_num, Lib.hid h⟩
        · simp [intOf]; omega
    · obtain rfl : j = N := by omega
      have hI := HI.out
      have hN4 : 4 ≤ j := by
        rw [HN.out]
        have h2 : 2 * (m + 1) ≤ (n + 1) * (m + 1) := Nat.mul_le_mul_right _ (by omega)
        omega
      obtain ⟨bv, cv, rfl, hrow⟩ := ORow0.form hI.row (by omega)
      have hnew := hI.new bv rfl
      obtain ⟨wd, hwd⟩ : ∃ x : World, x = wr := ⟨_, rfl⟩
      have hHI : Hid (SpI wb wd (w.heap.size + 1) (.slice none 0 0) (.slice (some ⟨bv, 0, none⟩) j cv) j (gridP m j) cs) := by rw [hwd]; exact HI
      have hrw : Hid (ORow wd 46 3 bv cv j cs) := by rw [hwd]; exact Lib.hid hrow
      obtain ⟨K, hK⟩ : ∃ K, K = m * n := ⟨_, rfl⟩
      have hK1 : (m : Int) * (n : Int) = (K : Int) := by rw [hK, Int.natCast_mul]
      have hKb : K ≤ 9 := by
        rw [hK]
        have h1 : m * n ≤ 3 * n := Nat.mul_le_mul_right _ (by omega)
        omega
      have HK := Lib.hid hK
      have hm0' : ¬ (m : Int) = 0 := by omega
      have hw1 : Hid (∀ W : World, wd = W → Below wd.heap.size wd (W.alloc (.cells #[] 2))) := Lib.hid fun W hW => by rw [← hW]; exact (Below.refl _ _).alloc (Nat.le_refl _) _
      clear HI hI hrow hK o0 of hlt hzr
      go_wp2_with fail
      go_loopw [7, 8] (fun out iv wr => ∃ (i I b cap : Nat), i ≤ K ∧ iv = .int .i64 i ∧ Hid (I = 4 * i) ∧ out = .slice (some ⟨b, 0, none⟩) I cap ∧ Hid (ORow wr 2 1 b cap I ((tilesL m i).map (Value.int .i64))) ∧ wd.heap.size ≤ b ∧ Hid (Below wd.heap.size wd wr)) (fun _ iv _ => K - (intOf iv).toNat)
      case atStart =>
        subst hwd
        exact ⟨0, 0, _, _, by omega, rfl, Lib.hid rfl, rfl, Lib.hid (ORow.new wd _ _), Nat.le_refl _, Lib.hid (hw1.out _ rfl)⟩
      case round =>
        clear hwd hw1
        obtain ⟨i, I, b, cap, hi, rfl, hI, rfl, HRI, hb, HW⟩ := hrel
        by_cases hlti : i < K
        · go_upto_region 10 with fail
          obtain ⟨A, hA⟩ : ∃ A, A = i % m := ⟨_, rfl⟩
          obtain ⟨B, hB⟩ : ∃ B, B = i / m := ⟨_, rfl⟩
          have hAm : A < m := by rw [hA]; exact Nat.mod_lt _ (by omega)
          have hBi : B ≤ i := by rw [hB]; exact Nat.div_le_self _ _
          have hmod : (i : Int).tmod (m : Int) = (A : Int) := by rw [hA]; exact (Int.ofNat_tmod i m).symm
          have hdiv : IntKind.i64.wrap ((i : Int) / (m : Int)) = (B : Int) := by
            have e : (i : Int) / (m : Int) = (B : Int) := by rw [hB]; rfl
            rw [e, IntKind.wrap_i64]
            omega
          have hw : IntKind.i64.wrap ((m : Int) + 1) = (m : Int) + 1 := by rw [IntKind.wrap_i64]; omega
          have hG0 : 0 ≤ (B : Int) * ((m : Int) + 1) := Int.mul_nonneg (by omega) (by omega)
          have hG1 : (B : Int) * ((m : Int) + 1) ≤ 40 := by
            have h1 : (B : Int) * ((m : Int) + 1) ≤ 10 * ((m : Int) + 1) := Int.mul_le_mul_of_nonneg_right (by omega) (by omega)
            omega
          obtain ⟨G, hG⟩ : ∃ G, G = B * (m + 1) := ⟨_, rfl⟩
          have eG : (B : Int) * ((m : Int) + 1) = (G : Int) := by rw [hG, Int.natCast_mul]; rfl
          have hp1 : IntKind.i64.wrap ((B : Int) * ((m : Int) + 1)) = (G : Int) := by rw [eG, IntKind.wrap_i64]; omega
          obtain ⟨P, hP⟩ : ∃ P, P = G + A := ⟨_, rfl⟩
          have hPb : P ≤ 50 := by omega
          have hp2 : IntKind.i64.wrap ((G : Int) + (A : Int)) = (P : Int) := by rw [IntKind.wrap_i64]; omega
          have HP : Hid (P = i / m * (m + 1) + i % m) := Lib.hid (by rw [hP, hG, ← hA, ← hB])
          clear hG0 hG1 eG hG hP hA hB
          go_quiet (fail)
          have HR2 : Hid (∀ o, ORow0 ((wr.drewN nq).alloc o) 2 1 (.slice (some ⟨b, 0, none⟩) I cap) I ((tilesL m i).map (Value.int .i64))) := Lib.hid fun o => ORow0.below (show ORow0 (wr.drewN nq) 2 1 (.slice (some ⟨b, 0, none⟩) I cap) I ((tilesL m i).map (Value.int .i64)) from (ORow.row0 HRI.out)) ((Below.refl _ _).alloc (Nat.le_refl _) _)
          have hI100 : I ≤ 100 := by have := hI.out; omega
          have hbw := HRI.out.lt
          clear hmod hdiv hw hp1 hp2
          go_wp2_with (at_builtin; refine wpList_app0 (by exact rfl) _ _ _ (by exact rfl) 2 (.int .i64 0) 1 8 Try.underlying29 infoInt rfl (by decide) _ (.slice (some ⟨b, 0, none⟩) I cap) I ((tilesL m i).map (Value.int .i64)) (by exact rfl) (HR2.out _) ⟨wr.heap.size, 0, none⟩ 4 4 [.int .i64 (P : Int), .int .i64 ((P : Int) + 1), .int .i64 ((P : Int) + m + 2), .int .i64 ((P : Int) + m + 1)] (by exact rfl) rfl (World.news_of_block (show (World.alloc (wr.drewN nq) _).heap[(wr.drewN nq).heap.size]? = _ from heap_alloc_new (wr.drewN nq) _)) (by simp [Value.oneCell']) (by decide) (by omega) (by decide) ?_; intro b6 c6 w6 hr6 hb6 hl6 hg6; have HR6 := Lib.hid hr6; have HG6 := Lib.hid hg6; have HB6 := Lib.hid hb6; clear hr6 hg6 hb6)
          have hg6 := HG6.out
          have hz := HW.out.size
          have hb6 : wd.heap.size ≤ b6 := by
            rcases HB6.out with e | e
            · simp [Value.ownBlock] at e; omega
            · simp at e; omega
          have hW6 : Below wd.heap.size wd w6 := by
            refine ⟨hg6.os.trans HW.out.os, hg6.tape.trans HW.out.tape, hg6.output.trans HW.out.output, by have := hg6.size; simp at this; omega, fun d hd => ?_⟩
            have h1 := hg6.block d (by simp; omega) (fun e => by simp [Value.ownBlock] at e; omega)
            have h2 := Below.heap_alloc (wr.drewN nq) (.cells #[.int .i64 (P : Int), .int .i64 ((P : Int) + 1), .int .i64 ((P : Int) + m + 2), .int .i64 ((P : Int) + m + 1)] 2) d (show d < (wr.drewN nq).heap.size by have := hz; simp; omega)
            exact (h1.trans h2).trans (HW.out.block d hd)
          have eT : (tilesL m i).map (Value.int .i64) ++ [.int .i64 (P : Int), .int .i64 ((P : Int) + 1), .int .i64 ((P : Int) + m + 2), .int .i64 ((P : Int) + m + 1)] = (tilesL m (i + 1)).map (Value.int .i64) := by
            rw [tilesL, List.map_append]
            congr 1
            simp only [tileL, ← HP.out, List.map_cons, List.map_nil]
          have hr6 := HR6.out
          rw [eT] at hr6
          refine ⟨⟨i + 1, I + 4, b6, c6, by omega, by go_num, Lib.hid (by have := hI.out; omega), rfl, Lib.hid hr6, hb6, Lib.hid hW6⟩, by simp [intOf]; omega⟩
        · obtain rfl : i = K := by omega
          have hIb : I ≤ 100 := by have := hI.out; omega
          have hrl := HRI.out.lt
          have hHI' := hHI.out
          have hW := HW.out
          have hI4 := hI.out
          have HFA : Hid (Calls Try.prog 79 #[.slice (some ⟨b, 0, none⟩) I cap] wr fun e w' => (∃ bf cf g csf, e = .returned (.slice (some ⟨bf, 0, none⟩) i cf) ∧ OwnF w' wr.heap.size w'.heap.size bf g (gridF m n) ∧ ORow w' 38 1 bf cf i csf) ∧ Below wr.heap.size wr w') := Lib.hid (by
            have hs := HRI.out.ints (by rw [tilesL_len]; exact hI4)
            have hcap : I ≤ cap := by
              obtain ⟨_, hr⟩ := HRI.out
              rcases hr with ⟨hn, _⟩ | ⟨g, c, cur, hv, _, _, h1, _⟩
              · cases hn
              · cases hv; exact h1
            have h := l06FacetsN b (b + 1) (some ⟨b, 0, none⟩) cap i (tilesL m i) (tilesL_len m i) (by omega) (by omega) wr hs (by omega)
            rw [Int.toNat_natCast, ← hI4] at h
            refine h.mono ?_
            rintro e w' ⟨⟨bf, cf, g, csf, he, h1, h2⟩, h3⟩
            have e2 := HK.out
            rw [e2, tiles_four] at h1
            exact ⟨⟨bf, cf, g, csf, he, h1, h2⟩, h3⟩)
          have hOW : OwnC wr (w.heap.size + 1) #[.slice (some ⟨bv, 0, none⟩) j cv, .slice none 0 0] 27 := hHI'.own.below hW hHI'.own.lt
          have hzd : wb.heap.size ≤ wd.heap.size := hHI'.ch.size
          have hRR : OwnC wr w.heap.size #[.slice none 0 0, .slice none 0 0] 27 := (hHI'.ch.own HR.out (by omega)).below hW (by omega)
          have HRR := Lib.hid hRR
          have HOW := Lib.hid hOW
          have HBW : Hid (Below w.heap.size w wr) := Lib.hid ((HB.out.trans (hHI'.ch.toBelow (by omega) (fun c hc => by omega))).trans (hW.mono (by omega)))
          have hbd := hrw.out.lt
          have HRW : Hid (ORow wr 46 3 bv cv j cs) := Lib.hid (hrw.out.below hW hbd)
          have HSP := Lib.hid hHI'.sp
          have hz := hW.size
          have hl1 : w.heap.size + 1 < wr.heap.size := by omega
          have hbr : bv < wr.heap.size := by omega
          have hne1 : ¬ w.heap.size = w.heap.size + 1 := by omega
          have HEF : Hid ((gridF m n).length = i) := Lib.hid (by rw [gridF_len]; exact HK.out.symm)
          clear hHI hHI' hrw hRR HR HB HO HW hW hI hI4 hOW HRI hm0'
          go_wp2_with (go_at_call 79; refine HFA.out.mono ?_; rintro e w8 ⟨⟨bf, cf, g, csf, rfl, hF, hRF⟩, b8⟩; have HF := Lib.hid hF; have HRF := Lib.hid hRF; have HB8 := Lib.hid b8; have O8 := HOW.out.below b8 hl1; have R8 := HRR.out.below b8 (by omega); have p0 := O8.cell 0; have p1 := O8.free 1; have r0 := R8.free 0; have r1 := R8.free 1; have p2 := O8.cell 1; have r2 := R8.cell 0; have r3 := R8.cell 1; simp at p0 p2 r2 r3; clear hF hRF b8)
          have R := ((OwnC.other R8 ⟨w.heap.size + 1, 1, none⟩ (.slice (some ⟨bf, 0, none⟩) i cf) (by simp)).set 0 (.slice (some ⟨bv, 0, none⟩) j cv)).set 1 (.slice (some ⟨bf, 0, none⟩) i cf)
          have q0 := R.cell 0
          have q1 := R.cell 1
          simp at q0 q1
          refine bodyPost_ret (v := .agg #[.slice (some ⟨bv, 0, none⟩) j cv, .slice (some ⟨bf, 0, none⟩) i cf]) (by simp [results, Try.results66, go_sem, *]) rfl ?_
          have z8 := HB8.out.size
          have hfar : Far wb.heap.size w8.heap.size w8 (((w8.setCell ⟨w.heap.size + 1, 1, none⟩ (.slice (some ⟨bf, 0, none⟩) i cf)).setCell ⟨w.heap.size, 0, none⟩ (.slice (some ⟨bv, 0, none⟩) j cv)).setCell ⟨w.heap.size, 1, none⟩ (.slice (some ⟨bf, 0, none⟩) i cf)) := (((Far.refl _ _ _).set _ _ (by simp; omega)).set _ _ (by simp; omega)).set _ _ (by simp; omega)
          have hF := (HF.out.lower (lo' := wb.heap.size) (by omega)).far hfar
          have hRF := HRF.out.far hfar (by have := HF.out.row; omega) HRF.out.lt
          have hRW := (HRW.out.below HB8.out hbr).far hfar hnew (by omega)
          have hEF := HEF.out
          refine ⟨⟨bv, cv, bf, cf, g, cs, csf, by rw [gridP_len, hEF], by rw [gridP_len]; exact hRW, HSP.out, by rw [hEF]; exact hRF, by simp only [World.size_setCell]; exact hF.lower (by omega), by omega, by have := HF.out.row; omega, fun k hk => by have := HF.out.blk k hk; omega⟩, (((HBW.out.trans (HB8.out.mono HBW.out.size)).setCell (by simp) _).setCell (by simp) _).setCell (by simp) _⟩
end Go.Proofs.Ytkjljajjjhfklaa

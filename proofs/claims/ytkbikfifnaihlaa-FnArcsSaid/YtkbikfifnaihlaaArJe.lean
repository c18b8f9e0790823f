/- Arcs: paths of general numbers, walked. Written by mkarp.py. Arcs: LineFit walked. Arcs: RoundFit walked. -/
import Derived.Test.YtkbikfifnaihlaaArJd
import Derived.Test.YtkbikfifnaihlaaDsG
namespace Go.Fl
open Ieee Go.RowKit
/-- neighbours apart -/
structure SegP (P Q : Cx) : Prop where
  d : nN (minusF Q P)
  ln : LongN (minusF Q P)
  pos : 0 < R .f32 (longF (minusF Q P))
structure PathN (xs : List Cx) : Prop where
  n1 : 2 ≤ xs.length
  n2 : xs.length ≤ 7
  seg : ∀ j, j + 1 < xs.length → SegP (cAt xs j) (cAt xs (j + 1))
end Go.Fl
namespace Go.Proofs.Ytkbikfifnaihlaa
open Go.RowKit Go.Fl

set_option maxHeartbeats 2000000 in
set_option maxRecDepth 100000 in
theorem longsOfG (bS n c : Nat) (xs : List Cx) (C : PathN xs) (hn : xs.length = n) (w : World) (hb : bS < w.heap.size) (hc : ∀ i, i < n → w.cell? ⟨bS, i, none⟩ = some (cV (cAt xs i))) :
    Calls Try.prog 61 #[.slice (some ⟨bS, 0, none⟩) n c] w fun e w' => RetLs xs (n - 1) e w' ∧ Below w.heap.size w w' := by
  have HC := Lib.hid hc
  have HCT := Lib.hid C
  have HN := Lib.hid hn
  have n2 : 2 ≤ n := by rw [← hn]; exact C.n1
  have n7 : n ≤ 7 := by rw [← hn]; exact C.n2
  clear hc C hn
  go_enter Try.func61, Try.ntmps61
  go_wp2_with fail
  go_loopw [3, 4] (fun o i wr => ∃ k g cap : Nat, k + 1 ≤ n ∧ i = .int .i64 ((k + 1 : Nat) : Int) ∧ o = .slice (some ⟨g, 0, none⟩) k cap ∧ w.heap.size ≤ g ∧ Hid (ORow wr 25 1 g cap k ((lensL xs k).map (Value.float .f32))) ∧ Hid (Below w.heap.size w wr)) (fun _ i _ => n - (intOf i).toNat)
  case atStart => exact ⟨0, w.heap.size, 0, by omega, rfl, rfl, Nat.le_refl _, Lib.hid (ORow.new _ _ _), Lib.hid (Below.alloc (Below.refl _ _) (Nat.le_refl _) _)⟩
  case round =>
    obtain ⟨k, g, cap, hk, rfl, rfl, hg, HR, HB⟩ := hrel
    obtain ⟨K, hK⟩ : ∃ K, K = k + 1 := ⟨_, rfl⟩
    have HK := Lib.hid hK
    have kK : (K : Int) - 1 = (k : Int) := by omega
    rw [← hK]
    by_cases hlt : K < n
    · have k0 : (0 : Int) ≤ (k : Int) := by omega
      have K0 : (0 : Int) ≤ (K : Int) := by omega
      have K1 : (K : Int) < (n : Int) := by omega
      have k1 : (k : Int) < (n : Int) := by omega
      have hs := HCT.out.seg k (by have := HN.out; omega)
      rw [← hK] at hs
      have g1 := HC.out k (by omega)
      have g2 := HC.out K hlt
      have HM := Lib.hid (fun W => minusN hs.d W)
      have HL := Lib.hid (fun W => longN hs.ln W)
      have HLE := Lib.hid (show longF (minusF (cAt xs K) (cAt xs k)) = lenF (cAt xs k) (cAt xs K) from rfl)
      have hz := HB.out.size
      have q1 := (HB.out.cell (p := ⟨bS, k, none⟩) hb).trans g1
      have q2 := (HB.out.cell (p := ⟨bS, K, none⟩) hb).trans g2
      have kW : IntKind.i64.wrap ((K : Int) - 1) = (k : Int) := by rw [kK]; exact IntWalk.i64_in _ (by omega)
      have kW2 : IntKind.i64.wrap (k : Int) = (k : Int) := IntWalk.i64_in _ (by omega)
      clear hK hs
      go_wp2_with fail
      go_region_held3 (fun w' => w'.cell? ⟨bS, k, none⟩ = some (cV (cAt xs k)) ∧ w'.cell? ⟨bS, K, none⟩ = some (cV (cAt xs K))) (first | go_keep | (exact ⟨(HB8.out.cell (p := ⟨bS, k, none⟩) hb).trans g1, (HB8.out.cell (p := ⟨bS, K, none⟩) hb).trans g2⟩)) (first
          | (go_at_call 20; refine (HM.out _).mono ?_; rintro e w8 ⟨rfl, rfl⟩)
          | (go_at_call 24; refine (HL.out _).mono ?_; rintro e w8 ⟨rfl, rfl⟩)
          | (refine step_appB rfl (.tmp 12) (.tmp 24) 65 rfl 25 (.float .f32 0) 4 Try.underlying65 infoF32 rfl (by decide) g cap k _ (by simp [Act.eval]) (HR.out.below (B := wr.heap.size) (Below.alloc (below_dr (Below.refl _ _) 1) (Nat.le_refl _) _) HR.out.lt) wr.heap.size 1 1 [.float .f32 (longF (minusF (cAt xs K) (cAt xs k)))] (by simp [Act.eval]) rfl (fun j u h => news_new wr.drew #[_] _ j u h) (by simp [Value.oneCell']) (by decide) (by omega) w.heap.size hg (by simp; omega) ?_; intro b8 cp8 w8 hr8 hb8 hg8; have HB8 := Lib.hid (Below.trans (below_dr (Below.alloc HB.out hz (.cells #[.float .f32 (longF (minusF (cAt xs K) (cAt xs k)))] 25)) 1) (hg8.below hg (by show w.heap.size ≤ (World.alloc _ _).heap.size; simp; omega))); clear hg8))
      go_wp2_with fail
      go_roundw
      case rel =>
        refine ⟨K, b8, cp8, by omega, by go_num, by rw [HK.out], hb8, ?_, HB8.out⟩
        have hK9 := HK.out
        subst hK9
        rw [lensL_succ, List.map_append]; exact Lib.hid hr8
      case measure => simp [intOf]; omega
    · have K1 : ¬ (K : Int) < (n : Int) := by omega
      obtain rfl : k = n - 1 := by omega
      clear hK
      go_wp2_with fail
      go_ret
      exact ⟨⟨g, cap, rfl, fRow.of_row HR.out (lensL_len xs _).symm⟩, HB.out⟩
theorem isPathG (bS n c : Nat) (xs : List Cx) (C : PathN xs) (hn : xs.length = n) (hx : ∀ z, z ∈ xs → nN z) (w : World) (hb : bS < w.heap.size) (hc : ∀ i, i < n → w.cell? ⟨bS, i, none⟩ = some (cV (cAt xs i))) :
    Calls Try.prog 36 #[.slice (some ⟨bS, 0, none⟩) n c] w fun e w' => e = .returned (.bool true) ∧ Below w.heap.size w w' := by
  have n2 : 2 ≤ n := by rw [← hn]; exact C.n1
  have n7 : n ≤ 7 := by rw [← hn]; exact C.n2
  have n2' : (2 : Int) ≤ (n : Int) := by omega
  have n7' : (n : Int) ≤ 7 := by omega
  have hall : xs.all okPt = true := List.all_eq_true.2 fun z hz => okN (hx z hz)
  have hsl : ∀ w' : World, w'.heap[bS]? = w.heap[bS]? → SlC w' bS (bS + 1) (some ⟨bS, 0, none⟩) xs := fun w' hw _ => ⟨bS, rfl, Nat.le_refl _, Nat.lt_succ_self _, fun i hi => (World.cell?_of_block (w := w) (a := ⟨bS, i, none⟩) hw).trans (hc i (by rw [← hn]; exact hi))⟩
  have hap := arePoints bS (bS + 1) (some ⟨bS, 0, none⟩) c xs (by omega) w (hsl w rfl)
  rw [hall, hn] at hap
  have HAP := Lib.hid hap
  have HL := Lib.hid (fun q => longsOfG bS n c xs C hn (w.drewN q) hb hc)
  have HP := Lib.hid (fun i (hi : i < n - 1) => (by
    have hs := C.seg i (by omega)
    rw [lensL_at hi]
    exact ⟨hs.ln.num, hs.pos⟩ : isN .f32 ((lensL xs (n - 1)).getD i 0) = true ∧ 0 < R .f32 ((lensL xs (n - 1)).getD i 0)))
  obtain ⟨m, hm⟩ : ∃ m, m = n - 1 := ⟨_, rfl⟩
  rw [← hm] at HL HP
  have HM := Lib.hid hm
  clear hm hap hall hsl hc hx C hn
  go_enter Try.func36, Try.ntmps36
  go_wp2_with fail
  refine HAP.out.mono ?_
  rintro e w1 ⟨rfl, q, rfl⟩
  go_wp2_with fail
  refine (HL.out q).mono ?_
  rintro e w2 ⟨⟨g, cap, rfl, hf⟩, hb2⟩
  have HF := Lib.hid hf
  have HB2 := Lib.hid (show Below w.heap.size w w2 from (below_dr (Below.refl _ _) q).trans hb2)
  clear hf hb2
  go_wp2_with fail
  refine (containsNo g m cap _ (lensL_len xs m) (by have := HM.out; omega) HP.out w2 HF.out).mono ?_
  rintro e w2 ⟨rfl, rfl⟩
  go_wp2_with fail
  go_ret
  exact ⟨rfl, HB2.out⟩
end Go.Proofs.Ytkbikfifnaihlaa

namespace Go.Proofs.Ytkbikfifnaihlaa
open Go.RowKit Go.Fl

set_option maxHeartbeats 4000000 in
set_option maxRecDepth 100000 in
theorem lineFitW {xs : List Cx} {n : Nat} (hn : xs.length = n) (PN : PathN xs) (A : LnN (cAt xs) n) (hx : ∀ z, z ∈ xs → nN z) (bS c : Nat) (w : World) (hb : bS < w.heap.size) (hc : ∀ i, i < n → w.cell? ⟨bS, i, none⟩ = some (cV (cAt xs i))) :
    Calls Try.prog 15 #[.slice (some ⟨bS, 0, none⟩) n c] w fun e w' => e = .returned (.tuple #[cV (meF (cAt xs) n), cV (lnW (cAt xs) n), .float .f32 (mxF (cAt xs) (meF (cAt xs) n) (lnW (cAt xs) n) n), .bool true]) ∧ Below w.heap.size w w' := by
  have n7 : n ≤ 7 := by rw [← hn]; exact PN.n2
  have HIP := Lib.hid (isPathG bS n c xs PN hn hx w hb hc)
  have HME := Lib.hid (fun W hW => middleOfW A.me bS c (by omega) W hW)
  have HAP : Hid (∀ nb W, (∀ i, i < 2 → W.cell? ⟨nb, i, none⟩ = some (cV (cAt [meF (cAt xs) n, lnW (cAt xs) n] i))) → Calls Try.prog 19 #[.slice (some ⟨nb, 0, none⟩) 2 2] W fun e w' => e = .returned (.bool true) ∧ ∃ n, w' = W.drewN n) := Lib.hid fun nb W hs => by
    have h := arePoints nb (nb + 1) (some ⟨nb, 0, none⟩) 2 [meF (cAt xs) n, lnW (cAt xs) n] (by simp) W (fun _ => ⟨nb, rfl, Nat.le_refl _, Nat.lt_succ_self _, hs⟩)
    simp only [List.all_cons, List.all_nil, okN A.me.m, okN A.al, Bool.and_true] at h
    exact h
  have HC := Lib.hid hc
  obtain ⟨p, hp⟩ : ∃ p, p = cAt xs := ⟨_, rfl⟩
  rw [← hp] at A HC HME HAP ⊢
  have dz : ∀ w : World, w.drewN 0 = w := World.drewN_zero
  have HAG := Lib.hid (fun w => angleOfW (z := (fop .sub .f32 (aF p (meF p n) n) (cF p (meF p n) n), fop .mul .f32 1073741824 (bF p (meF p n) n))) A.ag w)
  have HPH := Lib.hid (fun w => phasorI A.ph w)
  obtain ⟨z1, z2⟩ := run_fopN (op := .sub) A.ac
  obtain ⟨z3, z4⟩ := run_fopN (op := .mul) A.b2
  obtain ⟨z5, z6⟩ := run_fopN (op := .quo) A.hf
  obtain ⟨z7, z8⟩ := run_wid64 (isN.nan A.hf)
  have HA := Lib.hid A
  clear hn PN hx hc A hp
  obtain ⟨M, hM⟩ : ∃ M, M = meF p n := ⟨_, rfl⟩
  rw [← hM] at HME HAP HAG z1 z2 z3 z4 ⊢
  have HM := Lib.hid hM
  clear hM
  obtain ⟨W, hW⟩ : ∃ W, W = lnW p n := ⟨_, rfl⟩
  rw [← hW] at HAP ⊢
  have HW := Lib.hid hW
  clear hW
  go_enter Try.func15, Try.ntmps15
  go_wp2_with fail
  refine HIP.out.mono ?_
  rintro e w1 ⟨rfl, hb1⟩
  have HB := Lib.hid hb1
  have HC1 := Lib.hid (fun i (hi : i < n) => ((hb1.cell (p := ⟨bS, i, none⟩) hb).trans (HC.out i hi) : w1.cell? ⟨bS, i, none⟩ = some (cV (p i))))
  clear hb1 HC HIP
  go_wp2_with fail
  refine (HME.out _ HC1.out).mono ?_
  rintro e w2 ⟨rfl, rfl⟩
  unfold cV
  go_wp2_with fail
  go_loop [7, 8, 9, 26] (fun av bv cv iv => ∃ i : Nat, i ≤ n ∧ iv = .int .i64 (i : Nat) ∧ av = .float .f32 (aF p M i) ∧ bv = .float .f32 (bF p M i) ∧ cv = .float .f32 (cF p M i)) (fun _ _ _ iv => n - (intOf iv).toNat)
  case atStart => exact ⟨0, Nat.zero_le _, rfl, rfl, rfl, rfl⟩
  case round =>
    obtain ⟨i, hi, rfl, rfl, rfl, rfl⟩ := hrel
    by_cases hlt : i < n
    · have i0 : (0 : Int) ≤ (i : Int) := by omega
      have i1 : (i : Int) < (n : Int) := by omega
      have c1 := HC1.out i hlt
      have hd := HA.out.d i hlt
      have hs := HA.out.st i hlt
      have ha := HA.out.acc (i + 1) (by omega)
      rw [← HM.out] at hd hs ha
      obtain ⟨u1, v1⟩ := run_fopN (op := .sub) hd.1
      obtain ⟨u2, v2⟩ := run_fopN (op := .sub) hd.2
      obtain ⟨m1, d1⟩ := run_fopN hs.1
      obtain ⟨m2, d2⟩ := run_fopN hs.2.1
      obtain ⟨m3, d3⟩ := run_fopN hs.2.2
      obtain ⟨m4, d4⟩ := run_fopN (op := .add) ha.1
      obtain ⟨m5, d5⟩ := run_fopN (op := .add) ha.2.1
      obtain ⟨m6, d6⟩ := run_fopN (op := .add) ha.2.2
      have HN := Lib.hid (show aF p M (i + 1) = fop .add .f32 (aF p M i) (fop .mul .f32 (fop .sub .f32 (p i).1 M.1) (fop .sub .f32 (p i).1 M.1)) ∧ bF p M (i + 1) = fop .add .f32 (bF p M i) (fop .mul .f32 (fop .sub .f32 (p i).1 M.1) (fop .sub .f32 (p i).2 M.2)) ∧ cF p M (i + 1) = fop .add .f32 (cF p M i) (fop .mul .f32 (fop .sub .f32 (p i).2 M.2) (fop .sub .f32 (p i).2 M.2)) from ⟨rfl, rfl, rfl⟩)
      have e1 : (minusF (p i) M).1 = fop .sub .f32 (p i).1 M.1 := rfl
      have e2 : (minusF (p i) M).2 = fop .sub .f32 (p i).2 M.2 := rfl
      simp only [e1, e2] at m1 m2 m3 m4 m5 m6 d1 d2 d3 d4 d5 d6
      unfold cV at c1
      clear hd hs ha e1 e2
      go_wp2_with fail
      go_round
      case rel => exact ⟨i + 1, by omega, by go_num, by rw [HN.out.1], by rw [HN.out.2.1], by rw [HN.out.2.2]⟩
      case measure => simp [intOf]; omega
    · obtain rfl : i = n := by omega
      have i1 : ¬ (i : Int) < (i : Int) := by omega
      have eA : agF (fop .mul .f32 1073741824 (bF p M i)) (fop .sub .f32 (aF p M i) (cF p M i)) = lnA p i := by rw [HM.out]; rfl
      rw [eA] at HAG
      have eW : phF denI (fcv .f32 .f64 (lnH p i)) = lnW p i := rfl
      rw [eW] at HPH
      rw [← HW.out] at HPH
      have eH : fop .quo .f32 (lnA p i) 1073741824 = lnH p i := rfl
      rw [eH] at z5
      unfold cV at HAG
      clear eA eW eH
      go_wp2_with fail
      refine (HAG.out _).mono ?_
      rintro e w1 ⟨rfl, rfl⟩
      go_wp2_with fail
      refine (HPH.out _).mono ?_
      rintro e w1 ⟨rfl, rfl⟩
      go_wp2_with fail
      go_loop [15, 68] (fun mv jv => ∃ j : Nat, j ≤ i ∧ jv = .int .i64 (j : Nat) ∧ mv = .float .f32 (mxF p M W j)) (fun _ jv => i - (intOf jv).toNat)
      case atStart => exact ⟨0, Nat.zero_le _, rfl, rfl⟩
      case round =>
        obtain ⟨j, hj, rfl, rfl⟩ := hrel
        by_cases hjl : j < i
        · have j0 : (0 : Int) ≤ (j : Int) := by omega
          have j1 : (j : Int) < (i : Int) := by omega
          have c1 := HC1.out j hjl
          have hd := HA.out.d j hjl
          have hml := HA.out.ml j hjl
          have hxa := HA.out.xa j hjl
          have hmx := HA.out.mx j (by omega)
          rw [← HM.out] at hd hml hxa hmx
          rw [← HW.out] at hml hxa hmx
          have HD := Lib.hid (fun w => minusN hd w)
          have HCJ := Lib.hid (fun w => conjW W w)
          have HMU := Lib.hid (fun w => mulW hml w)
          have HAB := Lib.hid (fun w => absoluteW hml.nv w)
          have HXF := Lib.hid (fun w => isFinW hxa w)
          have hrm := fun (ts : Array TypeId) (t : TypeId) (w : World) => run_maxF (P := Try.prog) hmx hxa ts t w
          have eX : absN (mulF (minusF (p j) M) (W.1, Op.negFloat .f32 W.2)).2 = lnX p M W j := rfl
          rw [eX] at HAB
          have HN := Lib.hid (show mxF p M W (j + 1) = maxF .f32 (mxF p M W j) (lnX p M W j) from rfl)
          unfold cV at c1 HD HCJ HMU
          clear hd hml hxa hmx eX
          go_wp2_with fail
          refine (HD.out _).mono ?_
          rintro e w1 ⟨rfl, rfl⟩
          go_wp2_with fail
          refine (HCJ.out _).mono ?_
          rintro e w1 ⟨rfl, rfl⟩
          go_wp2_with fail
          refine (HMU.out _).mono ?_
          rintro e w1 ⟨rfl, rfl⟩
          go_wp2_with fail
          refine (HAB.out _).mono ?_
          rintro e w1 ⟨rfl, rfl⟩
          go_wp2_with fail
          refine (HXF.out _).mono ?_
          rintro e w1 ⟨rfl, rfl⟩
          go_wp2_with fail
          go_round
          case rel => exact ⟨j + 1, by omega, by go_num, by rw [HN.out]⟩
          case measure => simp [intOf]; omega
        · obtain rfl : j = i := by omega
          have j1 : ¬ (j : Int) < (j : Int) := by omega
          go_wp2_with fail
          refine Calls.mono (HAP.out _ _ ?hs) ?_
          case hs =>
            intro i hi
            rw [World.cell?_alloc_at _ _ _ _ (by simp)]
            have : i = 0 ∨ i = 1 := by omega
            rcases this with rfl | rfl <;> rfl
          rintro e w0 ⟨rfl, n2, rfl⟩
          go_wp2_with fail
          refine bodyPost_ret (v := .tuple #[.complex .f32 M.1 M.2, .complex .f32 W.1 W.2, .float .f32 (mxF p M W j), .bool true]) (by simp [results, Try.results15, go_sem, *]) rfl ?_
          exact ⟨rfl, below_dr (HB.out.alloc HB.out.size _) _⟩
end Go.Proofs.Ytkbikfifnaihlaa

namespace Go.Proofs.Ytkbikfifnaihlaa
open Go.RowKit Go.Fl

set_option maxHeartbeats 4000000 in
set_option maxRecDepth 100000 in
theorem roundFitW {xs : List Cx} (hn : xs.length = 3) (PN : PathN xs) (A : FitN (cAt xs)) (hx : ∀ z, z ∈ xs → nN z) (bS c : Nat) (w : World) (hb : bS < w.heap.size) (hc : ∀ i, i < 3 → w.cell? ⟨bS, i, none⟩ = some (cV (cAt xs i))) :
    Calls Try.prog 14 #[.slice (some ⟨bS, 0, none⟩) 3 c] w fun e w' => e = .returned (.tuple #[cV (fitZ (cAt xs)), .float .f32 (fitR (cAt xs)), .bool true]) ∧ Below w.heap.size w w' := by
  have HIP := Lib.hid (isPathG bS 3 c xs PN hn hx w hb hc)
  have HME := Lib.hid (fun W hW => middleOfW A.me bS c (by decide) W hW)
  have HAP : Hid (∀ nb W, (∀ i, i < 1 → W.cell? ⟨nb, i, none⟩ = some (cV (cAt [fitZ (cAt xs)] i))) → Calls Try.prog 19 #[.slice (some ⟨nb, 0, none⟩) 1 1] W fun e w' => e = .returned (.bool true) ∧ ∃ n, w' = W.drewN n) := Lib.hid fun nb W hs => by
    have h := arePoints nb (nb + 1) (some ⟨nb, 0, none⟩) 1 [fitZ (cAt xs)] (by simp) W (fun _ => ⟨nb, rfl, Nat.le_refl _, Nat.lt_succ_self _, hs⟩)
    simp only [List.all_cons, List.all_nil, okN A.z, Bool.and_true] at h
    exact h
  have HC := Lib.hid hc
  obtain ⟨p, hp⟩ : ∃ p, p = cAt xs := ⟨_, rfl⟩
  rw [← hp] at A HC HME HAP ⊢
  have dz : ∀ w : World, w.drewN 0 = w := World.drewN_zero
  have HRF := Lib.hid (fun w => isFinW A.rad w)
  have HPL := Lib.hid (fun w => plusN (a := meF p 3) (b := fitO p) A.z w)
  have eZ : plusF (meF p 3) (fitO p) = fitZ p := rfl
  rw [eZ] at HPL
  have HA := Lib.hid A
  obtain ⟨M, hM⟩ : ∃ M, M = meF p 3 := ⟨_, rfl⟩
  obtain ⟨Z, hZ⟩ : ∃ Z, Z = fitZ p := ⟨_, rfl⟩
  obtain ⟨O, hO⟩ : ∃ O, O = fitO p := ⟨_, rfl⟩
  obtain ⟨rr, hrr⟩ : ∃ r, r = fitR p := ⟨_, rfl⟩
  rw [← hM] at HME HPL
  rw [← hZ] at HPL HAP ⊢
  rw [← hO] at HPL
  rw [← hrr] at HRF ⊢
  have HM := Lib.hid hM
  have HZ := Lib.hid hZ
  have HO := Lib.hid hO
  have HRR := Lib.hid hrr
  clear hn PN hx hc A hp hM hZ hO hrr eZ
  go_enter Try.func14, Try.ntmps14
  go_wp2_with fail
  refine HIP.out.mono ?_
  rintro e w1 ⟨rfl, hb1⟩
  have HB := Lib.hid hb1
  have HC1 := Lib.hid (fun i (hi : i < 3) => ((hb1.cell (p := ⟨bS, i, none⟩) hb).trans (HC.out i hi) : w1.cell? ⟨bS, i, none⟩ = some (cV (p i))))
  clear hb1 HC HIP
  go_wp2_with fail
  refine (HME.out _ HC1.out).mono ?_
  rintro e w2 ⟨rfl, rfl⟩
  unfold cV
  go_wp2_with fail
  go_loop [6, 7, 8, 9, 10, 34] (fun av bv cv dv ev iv => ∃ i : Nat, i ≤ 3 ∧ iv = .int .i64 (i : Nat) ∧ av = .float .f32 (aF p M i) ∧ bv = .float .f32 (bF p M i) ∧ cv = .float .f32 (cF p M i) ∧ dv = .float .f32 (dF p M i) ∧ ev = .float .f32 (eF p M i)) (fun _ _ _ _ _ iv => 3 - (intOf iv).toNat)
  case atStart => exact ⟨0, Nat.zero_le _, rfl, rfl, rfl, rfl, rfl, rfl⟩
  case round =>
    obtain ⟨i, hi, rfl, rfl, rfl, rfl, rfl, rfl⟩ := hrel
    by_cases hlt : i < 3
    · have i0 : (0 : Int) ≤ (i : Int) := by omega
      have i1 : (i : Int) < 3 := by omega
      have c1 := HC1.out i hlt
      have hd := HA.out.d i hlt
      have hs := HA.out.st i hlt
      have ha := HA.out.acc (i + 1) (by omega)
      rw [← HM.out] at hd hs ha
      obtain ⟨u1, v1⟩ := run_fopN (op := .sub) hd.1
      obtain ⟨u2, v2⟩ := run_fopN (op := .sub) hd.2
      obtain ⟨m1, d1⟩ := run_fopN hs.uu
      obtain ⟨m2, d2⟩ := run_fopN hs.uv
      obtain ⟨m3, d3⟩ := run_fopN hs.vv
      obtain ⟨m7, d7⟩ := run_fopN (op := .add) hs.sq
      obtain ⟨m8, d8⟩ := run_fopN hs.us
      obtain ⟨m9, d9⟩ := run_fopN hs.vs
      obtain ⟨m4, d4⟩ := run_fopN (op := .add) ha.1
      obtain ⟨m5, d5⟩ := run_fopN (op := .add) ha.2.1
      obtain ⟨m6, d6⟩ := run_fopN (op := .add) ha.2.2.1
      obtain ⟨ma, da⟩ := run_fopN (op := .add) ha.2.2.2.1
      obtain ⟨mb, db⟩ := run_fopN (op := .add) ha.2.2.2.2
      have HN := Lib.hid (aF_succ p M i)
      have e1 : (minusF (p i) M).1 = fop .sub .f32 (p i).1 M.1 := rfl
      have e2 : (minusF (p i) M).2 = fop .sub .f32 (p i).2 M.2 := rfl
      simp only [e1, e2, sqF] at m1 m2 m3 m4 m5 m6 m7 m8 m9 ma mb d1 d2 d3 d4 d5 d6 d7 d8 d9 da db
      unfold cV at c1
      clear hd hs ha e1 e2
      go_wp2_with fail
      go_round
      case rel => exact ⟨i + 1, by omega, by go_num, rfl, rfl, rfl, rfl, rfl⟩
      case measure => simp [intOf]; omega
    · obtain rfl : i = 3 := by omega
      have S := HA.out.sol
      rw [← HM.out] at S
      obtain ⟨a, ha⟩ : ∃ t, t = aF p M 3 := ⟨_, rfl⟩
      obtain ⟨b, hb'⟩ : ∃ t, t = bF p M 3 := ⟨_, rfl⟩
      obtain ⟨c', hc'⟩ : ∃ t, t = cF p M 3 := ⟨_, rfl⟩
      obtain ⟨d, hd⟩ : ∃ t, t = dF p M 3 := ⟨_, rfl⟩
      obtain ⟨e', he'⟩ : ∃ t, t = eF p M 3 := ⟨_, rfl⟩
      have hOe : O = (rxF a b c' d e', ryF a b c' d e') := by rw [HO.out, ha, hb', hc', hd, he', HM.out]; rfl
      rw [← ha, ← hb', ← hc', ← hd, ← he'] at S ⊢
      clear ha hb' hc' hd he'
      obtain ⟨n, hn⟩ : ∃ t, t = rnF a b c' := ⟨_, rfl⟩
      obtain ⟨o1, ho1⟩ : ∃ t, t = rxF a b c' d e' := ⟨_, rfl⟩
      obtain ⟨o2, ho2⟩ : ∃ t, t = ryF a b c' d e' := ⟨_, rfl⟩
      rw [← ho1, ← ho2] at hOe
      subst hOe
      obtain ⟨s1, t1⟩ := run_fopN S.ac
      obtain ⟨s2, t2⟩ := run_fopN S.bb
      obtain ⟨s3, t3⟩ := run_fopN (op := .sub) S.df
      obtain ⟨s5, t5⟩ := run_fopN S.dc
      obtain ⟨s6, t6⟩ := run_fopN S.eb
      obtain ⟨s7, t7⟩ := run_fopN S.ea
      obtain ⟨s8, t8⟩ := run_fopN S.db
      obtain ⟨s9, t9⟩ := run_fopN (op := .sub) S.x
      obtain ⟨sa, ta⟩ := run_fopN (op := .sub) S.y
      have sn : (∀ w, mop .mul .f32 1073741824 (fop .sub .f32 (fop .mul .f32 a c') (fop .mul .f32 b b)) w = n) ∧ mdr .mul .f32 1073741824 (fop .sub .f32 (fop .mul .f32 a c') (fop .mul .f32 b b)) = 0 := by rw [hn]; exact run_fopN (op := .mul) S.n
      have sx : (∀ w, mop .quo .f32 (fop .sub .f32 (fop .mul .f32 d c') (fop .mul .f32 e' b)) n w = o1) ∧ mdr .quo .f32 (fop .sub .f32 (fop .mul .f32 d c') (fop .mul .f32 e' b)) n = 0 := by rw [hn, ho1]; exact run_fopN (op := .quo) S.o.1
      have sy : (∀ w, mop .quo .f32 (fop .sub .f32 (fop .mul .f32 e' a) (fop .mul .f32 d b)) n w = o2) ∧ mdr .quo .f32 (fop .sub .f32 (fop .mul .f32 e' a) (fop .mul .f32 d b)) n = 0 := by rw [hn, ho2]; exact run_fopN (op := .quo) S.o.2
      obtain ⟨sn, tn⟩ := sn
      obtain ⟨sx, tx⟩ := sx
      obtain ⟨sy, ty⟩ := sy
      have oe := ord_eq0 (show isN .f32 n = true by rw [hn]; exact S.n) zero32_N.1
      rw [zero32_R, decide_eq_false (show ¬ R .f32 n = 0 by rw [hn]; exact S.n0)] at oe
      unfold cV at HPL
      clear S hn ho1 ho2 HO hlt hi
      go_wp2_with fail
      refine (HPL.out _).mono ?_
      rintro e w1 ⟨rfl, rfl⟩
      go_wp2_with fail
      go_loop [18, 114] (fun sv jv => ∃ j : Nat, j ≤ 3 ∧ jv = .int .i64 (j : Nat) ∧ sv = .float .f32 (rsF p Z j)) (fun _ jv => 3 - (intOf jv).toNat)
      case atStart => exact ⟨0, Nat.zero_le _, rfl, rfl⟩
      case round =>
        obtain ⟨j, hj, rfl, rfl⟩ := hrel
        by_cases hjl : j < 3
        · have j0 : (0 : Int) ≤ (j : Int) := by omega
          have j1 : (j : Int) < 3 := by omega
          have c1 := HC1.out j hjl
          have hw := HA.out.w j hjl
          have hl := HA.out.l j hjl
          have hr := HA.out.r (j + 1) (by omega)
          rw [← HZ.out] at hw hl hr
          have HD := Lib.hid (fun w => minusN hw w)
          have HL := Lib.hid (fun w => longN hl w)
          have HN := Lib.hid (show rsF p Z (j + 1) = fop .add .f32 (rsF p Z j) (longF (minusF (p j) Z)) from rfl)
          rw [HN.out] at hr
          obtain ⟨q1, q2⟩ := run_fopN (op := .add) hr
          unfold cV at c1 HD HL
          clear hw hl hr
          go_wp2_with fail
          refine (HD.out _).mono ?_
          rintro e w1 ⟨rfl, rfl⟩
          go_wp2_with fail
          refine (HL.out _).mono ?_
          rintro e w1 ⟨rfl, rfl⟩
          go_wp2_with fail
          go_round
          case rel => exact ⟨j + 1, by omega, by go_num, by rw [HN.out]⟩
          case measure => simp [intOf]; omega
        · obtain rfl : j = 3 := by omega
          have hr : (∀ w, mop .quo .f32 (rsF p Z 3) (floatOfInt .f32 (3 : Int)) w = rr) ∧ mdr .quo .f32 (rsF p Z 3) (floatOfInt .f32 (3 : Int)) = 0 := by rw [HRR.out, HZ.out]; exact run_fopN (op := .quo) HA.out.rad
          obtain ⟨r1, r2⟩ := hr
          go_wp2_with fail
          refine Calls.mono (HAP.out _ _ ?hs) ?_
          case hs =>
            intro i hi
            rw [World.cell?_alloc_at _ _ _ _ (by simp)]
            have : i = 0 := by omega
            subst this
            rfl
          rintro e w0 ⟨rfl, n2, rfl⟩
          go_wp2_with fail
          refine (HRF.out _).mono ?_
          rintro e w1 ⟨rfl, rfl⟩
          go_wp2_with fail
          refine bodyPost_ret (v := .tuple #[.complex .f32 Z.1 Z.2, .float .f32 rr, .bool true]) (by simp [results, Try.results14, go_sem, *]) rfl ?_
          exact ⟨rfl, below_dr (HB.out.alloc HB.out.size _) _⟩
end Go.Proofs.Ytkbikfifnaihlaa

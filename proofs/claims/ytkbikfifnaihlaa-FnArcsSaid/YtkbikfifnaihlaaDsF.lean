/- Dashes: how long points are, walked; what is asked of lists of numbers; the path's lengths. -/
import Derived.Test.YtkbikfifnaihlaaDsT
import Derived.StillTailTactics
import Derived.IntWalk
namespace Go.Fl
open Ieee Go.RowKit
theorem zero_N : isN .f32 0 = true ∧ V .f32 0 = 0 := ⟨by decide +kernel, by decide +kernel⟩
theorem finN {x : Nat} (h : isN .f32 x = true) : fin (can .f32 x) = true := by
  rw [isN.canN h]
  have h1 := near_sub h h (by rw [Int.sub_self]; exact Nat.zero_le _)
  rw [Int.sub_self] at h1
  have h2 : V .f32 (fop .sub .f32 x x) = 0 := by
    have a := h1.le 0 0 (by decide) (by simp)
    have b := h1.ge 0 0 (by decide) (by simp)
    simp at a b
    omega
  unfold fin feq
  show (FloatKind.f32.format.order (fop .sub .f32 x x) 0 == some .eq) = true
  rw [ord_V h1.num zero_N.1, h2, zero_N.2]
  rfl
/-- a row of numbers -/
def fRow (w : World) (b : Nat) (xs : List Nat) : Prop := ∀ i, i < xs.length → w.cell? ⟨b, i, none⟩ = some (.float .f32 (xs.getD i 0))
theorem fRow.of_row {w : World} {T : TypeId} {b cap n : Nat} {xs : List Nat} (h : ORow w T 1 b cap n (xs.map (Value.float .f32))) (hn : n = xs.length) : fRow w b xs := fun i hi => by
  rw [h.cell i (by omega), List.getElem?_map, List.getElem?_eq_getElem hi]
  simp [hi]
theorem fRow.slF {w : World} {b c n : Nat} {xs : List Nat} (h : fRow w b xs) (hn : n = xs.length) (hm : xs.length ≤ 1048576) : SlF w (.slice (some ⟨b, 0, none⟩) n c) xs := by
  subst hn
  exact .inr ⟨b, 0, c, rfl, by omega, fun i hi => by rw [Nat.zero_add]; exact h i hi⟩
theorem ord_0 {x : Nat} (hx : isN .f32 x = true) (h0 : 0 < R .f32 x) : FloatKind.f32.format.order 0 x = some .lt ∧ FloatKind.f32.format.order x 0 = some .gt := by
  have hv : V .f32 0 < V .f32 x := by rw [← R_lt, zero32_N.2]; exact h0
  rw [ord_V zero_N.1 hx, ord_V hx zero_N.1]
  exact ⟨by rw [Int.compare_eq_lt.2 hv], by rw [Int.compare_eq_gt.2 hv]⟩
theorem aboveN {x : Nat} (hx : isN .f32 x = true) (h0 : 0 < R .f32 x) : above (can .f32 x) = true := by
  unfold above
  rw [finN hx]
  unfold fgt
  rw [isN.canN hx, (ord_0 hx h0).2]
  rfl
theorem okN {z : Cx} (h : nN z) : okPt z = true := by unfold okPt; rw [finN h.1, finN h.2]; rfl
def lensL (xs : List Cx) (k : Nat) : List Nat := (List.range k).map fun j => lenF (cAt xs j) (cAt xs (j + 1))
theorem lensL_succ (xs : List Cx) (k : Nat) : lensL xs (k + 1) = lensL xs k ++ [lenF (cAt xs k) (cAt xs (k + 1))] := by unfold lensL; rw [List.range_succ, List.map_append]; rfl
theorem lensL_len (xs : List Cx) (k : Nat) : (lensL xs k).length = k := by unfold lensL; simp
theorem lensL_at {xs : List Cx} {k i : Nat} (h : i < k) : (lensL xs k).getD i 0 = lenF (cAt xs i) (cAt xs (i + 1)) := by unfold lensL; simp [h]
def RetLs (xs : List Cx) (m : Nat) (e : Ending) (w' : World) : Prop := ∃ g cap, e = .returned (.slice (some ⟨g, 0, none⟩) m cap) ∧ fRow w' g (lensL xs m)
end Go.Fl
namespace Go.Proofs.Ytkbikfifnaihlaa
open Go.RowKit Go.Fl

theorem longN {z : Cx} (h : LongN z) (w : World) : Calls Try.prog 24 #[cV z] w fun x w' => x = .returned (.float .f32 (longF z)) ∧ w' = w := by
  obtain ⟨m1, d1⟩ := run_nar32 (isN.nan h.rnum) h.num
  have dz : ∀ w : World, w.drewN 0 = w := World.drewN_zero
  have HP := Lib.hid (fun w => powerN h.pw w)
  have HS := Lib.hid (fun w => mathSqrtR h.root w)
  clear h
  go_enter Try.func24, Try.ntmps24
  go_wp2_with fail
  refine (HP.out _).mono ?_
  rintro e1 w1 ⟨rfl, rfl⟩
  go_wp2_with fail
  refine (HS.out _).mono ?_
  rintro e1 w1 ⟨rfl, rfl⟩
  go_wp2_with fail
  go_ret
  exact ⟨rfl, rfl⟩
theorem powerS {z : Cx} (h : PowN z) (w : World) : Calls Try.prog 54 #[cV z] w fun x w' => x = .returned (.float .f64 (powF z)) ∧ w' = w := by
  obtain ⟨m1, d1⟩ := run_fopN h.m1
  obtain ⟨m2, d2⟩ := run_fopN h.m2
  obtain ⟨m3, d3⟩ := run_fopN (op := .add) h.num
  obtain ⟨m4, d4⟩ := run_wid64 h.v1
  obtain ⟨m5, d5⟩ := run_wid64 h.v2
  have dz : ∀ w : World, w.drewN 0 = w := World.drewN_zero
  obtain ⟨a, b⟩ := z
  clear h
  unfold cV
  go_enter Try.func54, Try.ntmps54
  go_wp2_with fail
  go_ret
  exact ⟨rfl, rfl⟩
theorem narrowS {x : Nat} (h : nanB .f64 x = false) (hn : isN .f32 (fcv .f64 .f32 x) = true) (w : World) : Calls Try.prog 45 #[.float .f64 x] w fun e w' => e = .returned (.float .f32 (fcv .f64 .f32 x)) ∧ w' = w := by
  obtain ⟨m1, d1⟩ := run_nar32 h hn
  have dz : ∀ w : World, w.drewN 0 = w := World.drewN_zero
  clear h hn
  go_enter Try.func45, Try.ntmps45
  go_wp2_with fail
  go_ret
  exact ⟨rfl, rfl⟩
theorem longS {z : Cx} (h : LongN z) (w : World) : Calls Try.prog 10 #[cV z] w fun x w' => x = .returned (.float .f32 (longF z)) ∧ w' = w := by
  have HL : Hid (∀ w, Calls Try.prog 29 #[cV z] w fun x w' => x = .returned (.float .f32 (longF z)) ∧ w' = w) := Lib.hid fun w => by
    have HN := Lib.hid (fun w => narrowS (isN.nan h.rnum) h.num w)
    have HP := Lib.hid (fun w => powerS h.pw w)
    have HS := Lib.hid (fun w => mathSqrtR h.root w)
    clear h
    go_enter Try.func29, Try.ntmps29
    go_wp2_with fail
    refine (HP.out _).mono ?_
    rintro e1 w1 ⟨rfl, rfl⟩
    go_wp2_with fail
    refine (HS.out _).mono ?_
    rintro e1 w1 ⟨rfl, rfl⟩
    go_wp2_with fail
    refine (HN.out _).mono ?_
    rintro e1 w1 ⟨rfl, rfl⟩
    go_wp2_with fail
    go_ret
    exact ⟨rfl, rfl⟩
  clear h
  go_enter Try.func10, Try.ntmps10
  go_wp2_with fail
  refine (HL.out _).mono ?_
  rintro e1 w1 ⟨rfl, rfl⟩
  go_wp2_with fail
  go_ret
  exact ⟨rfl, rfl⟩
theorem infoF32 : (Try.prog.info? 25).map (fun i => (i.zero, i.size, i.bytes)) = some (some (.float .f32 0), 1, 4) := by kernel_rfl
def Goes (g : Nat) : Prop := ∀ args w, Sem.run Try.prog (callFunc g args) w = .ok (.enter g args) w
set_option maxHeartbeats 1000000 in
theorem indexFunc (p : Nat → Bool) (g : Nat) (hg : Goes g) (hf : ∀ x w, Calls Try.prog g #[.float .f32 x] w fun e w' => e = .returned (.bool (p x)) ∧ ∃ n, w' = w.drewN n)
    (xs : List Nat) (v : Value) (w : World) (hs : SlF w v xs) :
    Calls Try.prog 67 #[v, .func (.func g) #[] #[]] w fun e w' => e = .returned (.int .i64 (idx p xs)) ∧ ∃ n, w' = w.drewN n := by
  have HF := Lib.hid hf
  clear hf
  have hgo : ∀ args w, Sem.run Try.prog (callFunc g args) w = .ok (.enter g args) w := hg
  rcases hs with ⟨rfl, rfl⟩ | ⟨b, off, cap, rfl, hm, hc⟩
  · go_enter Try.func67, Try.ntmps67
    go_wp2_with fail
    refine wp_loop_rounds 1 ?_
    rw [rounds_succ]
    go_wp2_with fail
    go_ret
    exact ⟨rfl, 0, rfl⟩
  go_enter Try.func67, Try.ntmps67
  go_wp2_with fail
  go_loopw [8] (fun i wr => ∃ k q : Nat, k ≤ xs.length ∧ i = .int .i64 k ∧ wr = w.drewN q ∧ (xs.take k).any p = false) (fun i _ => xs.length - (intOf i).toNat)
  case atStart => exact ⟨0, 0, by omega, rfl, rfl, rfl⟩
  case round =>
    obtain ⟨k, q, hk, rfl, rfl, hn⟩ := hrel
    by_cases hlt : k < xs.length
    · have hcell := hc k hlt
      have HN := Lib.hid hn
      clear hn hc
      go_wp2_with fail
      refine (HF.out _ _).mono ?_
      rintro e w' ⟨rfl, n, rfl⟩
      go_wp2_with fail
      · go_ret
        exact ⟨ret_int (idx_some hlt HN.out ‹_›).symm, _, rfl⟩
      · go_roundw
        case rel => exact ⟨k + 1, _, by omega, by go_num, rfl, any_snoc hlt HN.out ‹_›⟩
        case measure => simp [intOf]; omega
    · have HN := Lib.hid hn
      clear hn hc
      go_wp2_with fail
      go_ret
      have e : xs.take k = xs := List.take_of_length_le (by omega)
      exact ⟨ret_int (idx_none (by rw [← e]; exact HN.out)).symm, _, rfl⟩
theorem containsFunc (p : Nat → Bool) (g : Nat) (hg : Goes g) (hf : ∀ x w, Calls Try.prog g #[.float .f32 x] w fun e w' => e = .returned (.bool (p x)) ∧ ∃ n, w' = w.drewN n)
    (xs : List Nat) (v : Value) (w : World) (hs : SlF w v xs) :
    Calls Try.prog 51 #[v, .func (.func g) #[] #[]] w fun e w' => e = .returned (.bool (xs.any p)) ∧ ∃ n, w' = w.drewN n := by
  have HF := Lib.hid hf
  have HS := Lib.hid hs
  clear hf hs
  go_enter Try.func51, Try.ntmps51
  go_wp2_with fail
  refine (indexFunc p g hg HF.out xs v _ HS.out).mono ?_
  rintro e w' ⟨rfl, n, rfl⟩
  go_wp2_with fail
  go_ret
  exact ⟨ret_bool (idx_ge p xs), _, rfl⟩
set_option maxRecDepth 100000 in
theorem areMore1 (x : Nat) (w : World) : Calls Try.prog 52 #[.float .f32 x] w fun e w' => e = .returned (.bool (!above (can .f32 x))) ∧ ∃ n, w' = w.drewN n := by
  go_enter Try.func52, Try.ntmps52
  go_wp2_with (go_at_call 30; refine (implIsFinite _ _).mono ?_; rintro e w' ⟨rfl, n, rfl⟩)
  all_goals
    go_ret
    exact ⟨ret_bool (by simp [above, ← F32.gt (F32.mk x) F32.zero, *]), _, rfl⟩
theorem any_not {α : Type} (p : α → Bool) (xs : List α) : (!xs.any fun x => !p x) = xs.all p := by
  induction xs with
  | nil => rfl
  | cons x xs ih => simp only [List.any_cons, List.all_cons, Bool.not_or, Bool.not_not, ih]
set_option maxRecDepth 100000 in
theorem areMore (xs : List Nat) (v : Value) (w : World) (hs : SlF w v xs) :
    Calls Try.prog 27 #[v] w fun e w' => e = .returned (.bool (xs.all fun x => above (can .f32 x))) ∧ ∃ n, w' = w.drewN n := by
  have HS := Lib.hid hs
  clear hs
  go_enter Try.func27, Try.ntmps27
  go_wp2_with fail
  refine (containsFunc _ _ (fun _ _ => rfl) (fun x w => areMore1 x w) xs v _ HS.out).mono ?_
  rintro e w' ⟨rfl, n, rfl⟩
  go_wp2_with fail
  go_ret
  exact ⟨ret_bool (any_not _ _), _, rfl⟩
set_option maxHeartbeats 1000000 in
theorem indexNo (b n c : Nat) (xs : List Nat) (hn : xs.length = n) (hm : n ≤ 1000) (hx : ∀ i, i < n → isN .f32 (xs.getD i 0) = true ∧ 0 < R .f32 (xs.getD i 0)) (w : World) (hs : fRow w b xs) :
    Calls Try.prog 70 #[.slice (some ⟨b, 0, none⟩) n c, .float .f32 0] w fun e w' => e = .returned (.int .i64 (-1)) ∧ w' = w := by
  have HS := Lib.hid hs
  have HN := Lib.hid hn
  have HX := Lib.hid hx
  clear hs hn hx
  go_enter Try.func70, Try.ntmps70
  go_wp2_with fail
  go_loop [5, 8] (fun _ i => ∃ k : Nat, k ≤ n ∧ i = .int .i64 k) (fun _ i => n - (intOf i).toNat)
  case atStart => exact ⟨0, Nat.zero_le _, rfl⟩
  case round =>
    obtain ⟨k, hk, rfl⟩ := hrel
    by_cases hlt : k < n
    · have k0 : (0 : Int) ≤ (k : Int) := by omega
      have k1 : (k : Int) < (n : Int) := by omega
      have c1 := HS.out k (by rw [HN.out]; exact hlt)
      obtain ⟨x1, x2⟩ := HX.out k hlt
      have o1 := (ord_0 x1 x2).1
      have o2 : (FloatKind.f32.format.order 0 (xs.getD k 0) == some Ordering.eq) = false := by rw [o1]; rfl
      obtain ⟨x, hx⟩ : ∃ x, x = xs.getD k 0 := ⟨_, rfl⟩
      rw [← hx] at c1 o1 o2
      clear x1 x2 hx o1
      go_wp2_with fail
      go_round
      case rel => exact ⟨k + 1, by omega, by go_num⟩
      case measure => simp [intOf]; omega
    · have k1 : ¬ (k : Int) < (n : Int) := by omega
      go_wp2_with fail
      go_ret
      exact ⟨rfl, rfl⟩
theorem containsNo (b n c : Nat) (xs : List Nat) (hn : xs.length = n) (hm : n ≤ 1000) (hx : ∀ i, i < n → isN .f32 (xs.getD i 0) = true ∧ 0 < R .f32 (xs.getD i 0)) (w : World) (hs : fRow w b xs) :
    Calls Try.prog 60 #[.slice (some ⟨b, 0, none⟩) n c, .float .f32 0] w fun e w' => e = .returned (.bool false) ∧ w' = w := by
  have HI := Lib.hid (indexNo b n c xs hn hm hx w hs)
  clear hs hn hx
  go_enter Try.func60, Try.ntmps60
  go_wp2_with fail
  refine HI.out.mono ?_
  rintro e w1 ⟨rfl, rfl⟩
  go_wp2_with fail
  go_ret
  exact ⟨rfl, rfl⟩
set_option maxHeartbeats 2000000 in
set_option maxRecDepth 100000 in
theorem longsOfN {on off : Rat} (bS n c : Nat) (xs : List Cx) (C : Ctx xs on off) (hn : xs.length = n) (w : World) (hb : bS < w.heap.size) (hc : ∀ i, i < n → w.cell? ⟨bS, i, none⟩ = some (cV (cAt xs i))) :
    Calls Try.prog 61 #[.slice (some ⟨bS, 0, none⟩) n c] w fun e w' => RetLs xs (n - 1) e w' ∧ Below w.heap.size w w' := by
  have HC := Lib.hid hc
  have HCT := Lib.hid C
  have HN := Lib.hid hn
  have n2 : 2 ≤ n := by rw [← hn]; exact C.n1
  have n7 : n ≤ 7 := by rw [← hn]; exact C.n2
  clear hc C hn
  go_enter Try.func61, Try.ntmps61
  go_wp2_with fail
  go_loopw [3, 4] (fun o i wr => ∃ k g cap : Nat, k + 1 ≤ n ∧ i = .int .i64 ((k + 1 : Nat) : Int) ∧ o = .slice (some ⟨g, 0, none⟩) k cap ∧ w.heap.size ≤ g ∧ Hid (ORow wr 25 1 g cap k ((lensL xs k).map (Value.float .f32))) ∧ Hid (Below w.heap.size w wr)) (fun _ i _ => n - (intOf i).toNat)
  case atStart => exact ⟨0, w.heap.size, 0, by omega, rfl, rfl, Nat.le_refl _, Lib.hid (ORow.new _ _ _), Lib.hid (Below.alloc (Below.refl _ _) (Nat.le_refl _) _)⟩
  case round =>
    obtain ⟨k, g, cap, hk, rfl, rfl, hg, HR, HB⟩ := hrel
    obtain ⟨K, hK⟩ : ∃ K, K = k + 1 := ⟨_, rfl⟩
    have HK := Lib.hid hK
    have kK : (K : Int) - 1 = (k : Int) := by omega
    rw [← hK]
    by_cases hlt : K < n
    · have k0 : (0 : Int) ≤ (k : Int) := by omega
      have K0 : (0 : Int) ≤ (K : Int) := by omega
      have K1 : (K : Int) < (n : Int) := by omega
      have k1 : (k : Int) < (n : Int) := by omega
      have hs := HCT.out.seg k (by have := HN.out; omega)
      rw [← hK] at hs
      have g1 := HC.out k (by omega)
      have g2 := HC.out K hlt
      have HM := Lib.hid (fun W => minusN hs.d W)
      have HL := Lib.hid (fun W => longN hs.len.ln W)
      have HLE := Lib.hid (show longF (minusF (cAt xs K) (cAt xs k)) = lenF (cAt xs k) (cAt xs K) from rfl)
      have hz := HB.out.size
      have q1 := (HB.out.cell (p := ⟨bS, k, none⟩) hb).trans g1
      have q2 := (HB.out.cell (p := ⟨bS, K, none⟩) hb).trans g2
      have kW : IntKind.i64.wrap ((K : Int) - 1) = (k : Int) := by rw [kK]; exact IntWalk.i64_in _ (by omega)
      have kW2 : IntKind.i64.wrap (k : Int) = (k : Int) := IntWalk.i64_in _ (by omega)
      clear hK hs
      go_wp2_with fail
      go_region_held3 (fun w' => w'.cell? ⟨bS, k, none⟩ = some (cV (cAt xs k)) ∧ w'.cell? ⟨bS, K, none⟩ = some (cV (cAt xs K))) (first | go_keep | (exact ⟨(HB8.out.cell (p := ⟨bS, k, none⟩) hb).trans g1, (HB8.out.cell (p := ⟨bS, K, none⟩) hb).trans g2⟩)) (first
          | (go_at_call 20; refine (HM.out _).mono ?_; rintro e w8 ⟨rfl, rfl⟩)
          | (go_at_call 24; refine (HL.out _).mono ?_; rintro e w8 ⟨rfl, rfl⟩)
          | (refine step_appB rfl (.tmp 12) (.tmp 24) 65 rfl 25 (.float .f32 0) 4 Try.underlying65 infoF32 rfl (by decide) g cap k _ (by simp [Act.eval]) (HR.out.below (B := wr.heap.size) (Below.alloc (below_dr (Below.refl _ _) 1) (Nat.le_refl _) _) HR.out.lt) wr.heap.size 1 1 [.float .f32 (longF (minusF (cAt xs K) (cAt xs k)))] (by simp [Act.eval]) rfl (fun j u h => news_new wr.drew #[_] _ j u h) (by simp [Value.oneCell']) (by decide) (by omega) w.heap.size hg (by simp; omega) ?_; intro b8 cp8 w8 hr8 hb8 hg8; have HB8 := Lib.hid (Below.trans (below_dr (Below.alloc HB.out hz (.cells #[.float .f32 (longF (minusF (cAt xs K) (cAt xs k)))] 25)) 1) (hg8.below hg (by show w.heap.size ≤ (World.alloc _ _).heap.size; simp; omega))); clear hg8))
      go_wp2_with fail
      go_roundw
      case rel =>
        refine ⟨K, b8, cp8, by omega, by go_num, by rw [HK.out], hb8, ?_, HB8.out⟩
        have hK9 := HK.out
        subst hK9
        rw [lensL_succ, List.map_append]; exact Lib.hid hr8
      case measure => simp [intOf]; omega
    · have K1 : ¬ (K : Int) < (n : Int) := by omega
      obtain rfl : k = n - 1 := by omega
      clear hK
      go_wp2_with fail
      go_ret
      exact ⟨⟨g, cap, rfl, fRow.of_row HR.out (lensL_len xs _).symm⟩, HB.out⟩
end Go.Proofs.Ytkbikfifnaihlaa

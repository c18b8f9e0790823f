/- Dashes: IsPath, the closures of DashPath, what is asked of all dashes. -/
import Derived.Test.YtodkhkphagcfiaaDsF
namespace Go.Proofs.Ytodkhkphagcfiaa
open Go.RowKit Go.Fl

theorem isFiniteN {x : Nat} (h : isN .f32 x = true) (w : World) : Calls Try.prog 16 #[.float .f32 x] w fun e w' => e = .returned (.bool true) ∧ ∃ n, w' = w.drewN n := by
  have HF := Lib.hid (finN h)
  refine (implIsFinite x w).mono ?_
  rintro e w' ⟨rfl, hw⟩
  rw [HF.out]
  exact ⟨rfl, hw⟩
theorem currentN (b4 b8 pb cp c x : Nat) (w : World) (hc : c ≤ 2000) (h4 : w.cell? ⟨b4, 0, none⟩ = some (.slice (some ⟨pb, 0, none⟩) 2 cp)) (h8 : w.cell? ⟨b8, 0, none⟩ = some (.int .i64 (c : Nat))) (hp : w.cell? ⟨pb, c % 2, none⟩ = some (.float .f32 x)) :
    Calls Try.prog 17 #[.pointer (some ⟨b4, 0, none⟩), .pointer (some ⟨b8, 0, none⟩)] w fun e w' => e = .returned (.float .f32 x) ∧ ∃ q, w' = w.drewN q := by
  obtain ⟨m, hm⟩ : ∃ m, m = c % 2 := ⟨_, rfl⟩
  rw [← hm] at hp
  have e1 : (c : Int).tmod 2 = (m : Int) := by rw [hm, Int.tmod_eq_emod_of_nonneg (by omega)]; rfl
  have e2 : (c : Int) % 2 = (m : Int) := by rw [hm]; rfl
  have c0 : (0 : Int) ≤ (c : Int) := by omega
  have m0 : (0 : Int) ≤ (m : Int) := by omega
  have m1 : (m : Int) < 2 := by omega
  clear hm hc
  go_enter Try.func17, Try.ntmps17
  go_wp2_with fail
  go_quiet (fail)
  go_wp2_with fail
  go_ret
  exact ⟨rfl, _, rfl⟩
theorem isDashY (b8 c : Nat) (w : World) (hc : c ≤ 2000) (h0 : c % 2 = 0) (h8 : w.cell? ⟨b8, 0, none⟩ = some (.int .i64 (c : Nat))) :
    Calls Try.prog 18 #[.pointer (some ⟨b8, 0, none⟩)] w fun e w' => e = .returned (.bool true) ∧ w' = w := by
  have e1 : (c : Int).tmod 2 = 0 := by rw [Int.tmod_eq_emod_of_nonneg (by omega)]; omega
  have e2 : (c : Int) % 2 = 0 := by omega
  have c0 : (0 : Int) ≤ (c : Int) := by omega
  clear h0 hc
  go_enter Try.func18, Try.ntmps18
  go_wp2_with fail
  go_ret
  exact ⟨rfl, rfl⟩
theorem isDashN (b8 c : Nat) (w : World) (hc : c ≤ 2000) (h0 : ¬ c % 2 = 0) (h8 : w.cell? ⟨b8, 0, none⟩ = some (.int .i64 (c : Nat))) :
    Calls Try.prog 18 #[.pointer (some ⟨b8, 0, none⟩)] w fun e w' => e = .returned (.bool false) ∧ w' = w := by
  have e1 : (c : Int).tmod 2 = 1 := by rw [Int.tmod_eq_emod_of_nonneg (by omega)]; omega
  have e2 : (c : Int) % 2 = 1 := by omega
  have c0 : (0 : Int) ≤ (c : Int) := by omega
  clear h0 hc
  go_enter Try.func18, Try.ntmps18
  go_wp2_with fail
  go_ret
  exact ⟨rfl, rfl⟩
theorem isPathN {on off : Rat} (bS n c : Nat) (xs : List Cx) (C : Ctx xs on off) (hn : xs.length = n) (hx : ∀ z, z ∈ xs → nN z) (w : World) (hb : bS < w.heap.size) (hc : ∀ i, i < n → w.cell? ⟨bS, i, none⟩ = some (cV (cAt xs i))) :
    Calls Try.prog 14 #[.slice (some ⟨bS, 0, none⟩) n c] w fun e w' => e = .returned (.bool true) ∧ Below w.heap.size w w' := by
  have n2 : 2 ≤ n := by rw [← hn]; exact C.n1
  have n7 : n ≤ 7 := by rw [← hn]; exact C.n2
  have n2' : (2 : Int) ≤ (n : Int) := by omega
  have n7' : (n : Int) ≤ 7 := by omega
  have hall : xs.all okPt = true := List.all_eq_true.2 fun z hz => okN (hx z hz)
  have hsl : ∀ w' : World, w'.heap[bS]? = w.heap[bS]? → SlC w' bS (bS + 1) (some ⟨bS, 0, none⟩) xs := fun w' hw _ => ⟨bS, rfl, Nat.le_refl _, Nat.lt_succ_self _, fun i hi => (World.cell?_of_block (w := w) (a := ⟨bS, i, none⟩) hw).trans (hc i (by rw [← hn]; exact hi))⟩
  have hap := arePoints bS (bS + 1) (some ⟨bS, 0, none⟩) c xs (by omega) w (hsl w rfl)
  rw [hall, hn] at hap
  have HAP := Lib.hid hap
  have HL := Lib.hid (fun q => longsOfN bS n c xs C hn (w.drewN q) hb hc)
  have HP := Lib.hid (fun i (hi : i < n - 1) => (by
    have hs := (C.seg i (by omega)).len
    rw [lensL_at hi]
    exact ⟨hs.ln.num, by have := hs.lo; grind⟩ : isN .f32 ((lensL xs (n - 1)).getD i 0) = true ∧ 0 < R .f32 ((lensL xs (n - 1)).getD i 0)))
  obtain ⟨m, hm⟩ : ∃ m, m = n - 1 := ⟨_, rfl⟩
  rw [← hm] at HL HP
  have HM := Lib.hid hm
  clear hm hap hall hsl hc hx C hn
  go_enter Try.func14, Try.ntmps14
  go_wp2_with fail
  refine HAP.out.mono ?_
  rintro e w1 ⟨rfl, q, rfl⟩
  go_wp2_with fail
  refine (HL.out q).mono ?_
  rintro e w2 ⟨⟨g, cap, rfl, hf⟩, hb2⟩
  have HF := Lib.hid hf
  have HB2 := Lib.hid (show Below w.heap.size w w2 from (below_dr (Below.refl _ _) q).trans hb2)
  clear hf hb2
  go_wp2_with fail
  refine (containsNo g m cap _ (lensL_len xs m) (by have := HM.out; omega) HP.out w2 HF.out).mono ?_
  rintro e w2 ⟨rfl, rfl⟩
  go_wp2_with fail
  go_ret
  exact ⟨rfl, HB2.out⟩
theorem dash3 (lo hi : Nat) (ao : Option Addr) (c n : Nat) (l : List Cx) (hn : l.length = n) (hn2 : n ≤ 1000) (w : World) (hs : SlC w lo hi ao l) (h : l.all okPt = true) :
    Calls Try.prog 24 #[.slice ao n c] w fun e w' => e = .returned (.bool false) ∧ ∃ q, w' = w.drewN q := by
  have hap := arePoints lo hi ao c l (by omega) w hs
  rw [h, hn] at hap
  have HAP := Lib.hid hap
  clear hap hs h hn
  go_enter Try.func24, Try.ntmps24
  go_wp2_with fail
  refine HAP.out.mono ?_
  rintro e w1 ⟨rfl, q, rfl⟩
  go_wp2_with fail
  go_ret
  exact ⟨rfl, _, rfl⟩
set_option maxHeartbeats 1000000 in
theorem indexL (lo hi : Nat) (ao : Option Addr) (c n : Nat) (ls : List (List Cx)) (hn : ls.length = n) (hn2 : n ≤ 1000) (hl : ∀ i, i < n → (lpAt ls i).length ≤ 1000 ∧ (lpAt ls i).all okPt = true) (w : World) (hs : SlL w lo hi ao ls) :
    Calls Try.prog 36 #[.slice ao n c, .func (.func 24) #[] #[]] w fun e w' => e = .returned (.int .i64 (-1)) ∧ ∃ q, w' = w.drewN q := by
  have HS := Lib.hid hs
  have HL := Lib.hid hl
  have HN := Lib.hid hn
  clear hs hl hn
  have hgo : ∀ args w, Sem.run Try.prog (callFunc 24 args) w = .ok (.enter 24 args) w := fun _ _ => rfl
  go_enter Try.func36, Try.ntmps36
  go_wp2_with fail
  go_loopw [5, 8] (fun _ i wr => ∃ k q : Nat, k ≤ n ∧ i = .int .i64 k ∧ wr = w.drewN q) (fun _ i _ => n - (intOf i).toNat)
  case atStart => exact ⟨0, 0, by omega, rfl, rfl⟩
  case round =>
    obtain ⟨k, q, hk, rfl, rfl⟩ := hrel
    by_cases hlt : k < n
    · obtain ⟨b, rfl, _, _, hc⟩ := HS.out (by rw [HN.out]; omega)
      obtain ⟨ai, ci, c1, hsc⟩ := hc k (by rw [HN.out]; exact hlt)
      obtain ⟨l1, l2⟩ := HL.out k hlt
      have HD := Lib.hid (fun q => dash3 lo hi ai ci _ (lpAt ls k) rfl l1 (w.drewN q) hsc l2)
      obtain ⟨m, hm⟩ : ∃ m, m = (lpAt ls k).length := ⟨_, rfl⟩
      rw [← hm] at c1 HD
      clear hc hsc l1 l2 hm
      have k0 : (0 : Int) ≤ (k : Int) := by omega
      have k1 : (k : Int) < (n : Int) := by omega
      go_wp2_with fail
      refine (HD.out _).mono ?_
      rintro e w' ⟨rfl, n, rfl⟩
      go_wp2_with fail
      go_roundw
      case rel => exact ⟨k + 1, _, by omega, by go_num, rfl⟩
      case measure => simp [intOf]; omega
    · have k1 : ¬ (k : Int) < (n : Int) := by omega
      go_wp2_with fail
      go_ret
      exact ⟨rfl, _, rfl⟩
theorem containsL (lo hi : Nat) (ao : Option Addr) (c n : Nat) (ls : List (List Cx)) (hn : ls.length = n) (hn2 : n ≤ 1000) (hl : ∀ i, i < n → (lpAt ls i).length ≤ 1000 ∧ (lpAt ls i).all okPt = true) (w : World) (hs : SlL w lo hi ao ls) :
    Calls Try.prog 23 #[.slice ao n c, .func (.func 24) #[] #[]] w fun e w' => e = .returned (.bool false) ∧ ∃ q, w' = w.drewN q := by
  have HI := Lib.hid (indexL lo hi ao c n ls hn hn2 hl w hs)
  clear hs hl hn
  go_enter Try.func23, Try.ntmps23
  go_wp2_with fail
  refine HI.out.mono ?_
  rintro e w1 ⟨rfl, q, rfl⟩
  go_wp2_with fail
  go_ret
  exact ⟨rfl, _, rfl⟩
end Go.Proofs.Ytodkhkphagcfiaa

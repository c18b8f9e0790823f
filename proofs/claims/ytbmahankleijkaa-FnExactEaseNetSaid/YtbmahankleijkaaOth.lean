/- The other corners of all edges of a corner: what the reference and the program make of them. -/
import Derived.Test.YtbmahankleijkaaPrB
namespace Go.Fl
/-- what an edge from a to b gives to the corner x -/
def othE (a b x : Int) : List Int := if a = x then [b] else if b = x then [a] else []
/-- of the first k edges of L those for which p holds -/
def othTo (p : Nat → Bool) (A B : List Int) (L : List Nat) (x : Int) : Nat → List Int
  | 0 => []
  | k + 1 => othTo p A B L x k ++ (if p (L.getD k 0) then othE (iAt A (L.getD k 0)) (iAt B (L.getD k 0)) x else [])
theorem othE_len (a b x : Int) : (othE a b x).length ≤ 1 := by unfold othE; split <;> (try split) <;> simp
theorem othTo_len (p : Nat → Bool) (A B : List Int) (L : List Nat) (x : Int) : ∀ k, (othTo p A B L x k).length ≤ k
  | 0 => by simp [othTo]
  | k + 1 => by
    have := othTo_len p A B L x k
    have h2 := othE_len (iAt A (L.getD k 0)) (iAt B (L.getD k 0)) x
    simp only [othTo, List.length_append]
    split
    · omega
    · simp; omega
/-- the same from a list of pairs, the first m pairs -/
def othP (xs : List Int) (x : Int) : Nat → List Int
  | 0 => []
  | m + 1 => othP xs x m ++ ((if iAt xs (2 * m) = x then [iAt xs (2 * m + 1)] else []) ++ (if iAt xs (2 * m + 1) = x then [iAt xs (2 * m)] else []))
theorem othP_app {xs ys : List Int} {x : Int} : ∀ m, 2 * m ≤ xs.length → othP (xs ++ ys) x m = othP xs x m
  | 0, _ => rfl
  | m + 1, h => by
    have e1 : iAt (xs ++ ys) (2 * m) = iAt xs (2 * m) := by unfold iAt; rw [List.getD_eq_getElem?_getD, List.getD_eq_getElem?_getD, List.getElem?_append_left (by omega)]
    have e2 : iAt (xs ++ ys) (2 * m + 1) = iAt xs (2 * m + 1) := by unfold iAt; rw [List.getD_eq_getElem?_getD, List.getD_eq_getElem?_getD, List.getElem?_append_left (by omega)]
    rw [othP, othP, othP_app m (by omega), e1, e2]
theorem othP_len (xs : List Int) (x : Int) : ∀ m, (othP xs x m).length ≤ 2 * m
  | 0 => by simp [othP]
  | m + 1 => by
    have := othP_len xs x m
    simp only [othP, List.length_append]
    split <;> split <;> simp <;> omega
theorem prTo_even (p : Nat → Bool) (A B : List Int) (L : List Nat) : ∀ k, ∃ m, (prTo p A B L k).length = 2 * m
  | 0 => ⟨0, rfl⟩
  | k + 1 => by
    obtain ⟨m, hm⟩ := prTo_even p A B L k
    simp only [prTo, List.length_append, hm]
    split
    · exact ⟨m + 1, by simp; omega⟩
    · exact ⟨m, by simp⟩
/-- the two agree where no edge leads back to its own corner -/
theorem othP_prTo {p : Nat → Bool} {A B : List Int} {L : List Nat} {x : Int} (hne : ∀ k, k < L.length → iAt A (L.getD k 0) ≠ iAt B (L.getD k 0)) : ∀ k m, k ≤ L.length → (prTo p A B L k).length = 2 * m → othP (prTo p A B L k) x m = othTo p A B L x k
  | 0, m, _, h => by
    have : m = 0 := by simp [prTo] at h; omega
    subst this; rfl
  | k + 1, m, hk, h => by
    cases hp : p (L.getD k 0) with
    | false =>
      rw [prTo_no hp] at h ⊢
      rw [othP_prTo hne k m (by omega) h, othTo, if_neg (by rw [hp]; decide), List.append_nil]
    | true =>
      obtain ⟨m', hm'⟩ := prTo_even p A B L k
      rw [prTo_yes hp] at h ⊢
      have hm : m = m' + 1 := by simp only [List.length_append, hm', List.length_cons, List.length_nil] at h; omega
      subst hm
      have e1 : iAt (prTo p A B L k ++ [iAt A (L.getD k 0), iAt B (L.getD k 0)]) (2 * m') = iAt A (L.getD k 0) := by
        unfold iAt; rw [List.getD_eq_getElem?_getD, List.getElem?_append_right (by omega), hm', Nat.sub_self]; rfl
      have e2 : iAt (prTo p A B L k ++ [iAt A (L.getD k 0), iAt B (L.getD k 0)]) (2 * m' + 1) = iAt B (L.getD k 0) := by
        unfold iAt; rw [List.getD_eq_getElem?_getD, List.getElem?_append_right (by omega), hm', Nat.add_sub_cancel_left]; rfl
      have hn := hne k (by omega)
      rw [othP, othP_app m' (by omega), othP_prTo hne k m' (by omega) hm', e1, e2, othTo, if_pos hp]
      congr 1
      unfold othE
      by_cases h1 : iAt A (L.getD k 0) = x
      · rw [if_pos h1, if_pos h1, if_neg (fun e => hn (h1.trans e.symm))]; rfl
      · rw [if_neg h1, if_neg h1]; rfl
end Go.Fl
namespace Go.Proofs.Ytbmahankleijkaa
open Go.RowKit Go.Fl

set_option maxHeartbeats 2000000 in
set_option maxRecDepth 100000 in
theorem l06Others (lo hi : Nat) (ao : Option Addr) (c m : Nat) (xs : List Int) (x : Int) (hn : xs.length ≤ 1048576) (hm : xs.length = 2 * m) (w : World) (hs : SlI w lo hi ao xs) (hh : hi ≤ w.heap.size) :
    Calls Try.prog 82 #[.slice ao xs.length c, .int .i64 x] w fun e w' => (∃ b cap, e = .returned (.slice (some ⟨b, 0, none⟩) (othP xs x m).length cap) ∧ ORow w' 2 1 b cap (othP xs x m).length ((othP xs x m).map (Value.int .i64)) ∧ w.heap.size ≤ b) ∧ Below w.heap.size w w' := by
  have HS := Lib.hid hs
  have HLN := Lib.hid (othP_len xs x)
  have HM := Lib.hid hm
  clear hs hm
  go_enter Try.func82, Try.ntmps82
  go_wp2_with fail
  go_loopw [5, 6] (fun out i wr => ∃ (k kk b cap : Nat), k ≤ m ∧ Hid (kk = 2 * k) ∧ i = .int .i64 kk ∧ out = .slice (some ⟨b, 0, none⟩) (othP xs x k).length cap ∧ Hid (ORow wr 2 1 b cap (othP xs x k).length ((othP xs x k).map (Value.int .i64))) ∧ w.heap.size ≤ b ∧ Hid (Below w.heap.size w wr)) (fun _ i _ => 2 * m - (intOf i).toNat)
  case atStart => exact ⟨0, 0, _, _, by omega, Lib.hid rfl, rfl, rfl, ORow.new w _ _, Nat.le_refl _, Below.alloc (Below.refl _ _) (Nat.le_refl _) _⟩
  case round =>
    obtain ⟨k, kk, b, cap, hk, HKK, rfl, rfl, HR, hbb, HW⟩ := hrel
    have hkk := HKK.out
    have hml : xs.length = 2 * m := HM.out
    have HML := Lib.hid hml
    by_cases hlt : k < m
    · obtain ⟨b3, o3, rfl, q1, q3, hc3⟩ := HS.out (by omega)
      obtain ⟨k1, hk1⟩ : ∃ k1, k1 = kk + 1 := ⟨_, rfl⟩
      obtain ⟨k2, hk2⟩ : ∃ k2, k2 = kk + 2 := ⟨_, rfl⟩
      have e1 := keep_cell HW.out (hc3 kk (by omega))
      have e2 := keep_cell HW.out (hc3 k1 (by omega))
      have t0 : (0 : Int) ≤ (kk : Int) := by omega
      have t1 : (kk : Int) < (xs.length : Int) := by omega
      have t2 : IntKind.i64.wrap ((kk : Int) + 1) = (k1 : Int) := by rw [IntKind.wrap_i64]; omega
      have t3 : (0 : Int) ≤ (k1 : Int) := by omega
      have t4 : (k1 : Int) < (xs.length : Int) := by omega
      have t5 : IntKind.i64.wrap ((kk : Int) + 2) = (k2 : Int) := by rw [IntKind.wrap_i64]; omega
      have HK2 : Hid (k2 = 2 * (k + 1)) := Lib.hid (by omega)
      have hl : (othP xs x k).length ≤ 1048576 := by have := HLN.out k; omega
      have hzw := HW.out.size
      have HSUC : Hid (othP xs x (k + 1) = othP xs x k ++ ((if iAt xs kk = x then [iAt xs k1] else []) ++ (if iAt xs k1 = x then [iAt xs kk] else []))) := Lib.hid (by rw [hk1, hkk]; rfl)
      clear hc3 hml hkk hk1 hk2
      generalize othP xs x k = now at *
      generalize iAt xs kk = u at *
      generalize iAt xs k1 = v at *
      by_cases h1 : u = x
      · by_cases h2 : v = x
        · obtain rfl : v = u := h2.trans h1.symm
          obtain rfl := h1
          go_wp2_with (first | (at_builtin; refine wpList_app rfl _ _ _ rfl 2 (.int .i64 0) 1 8 Try.underlying27 infoInt rfl (by decide) _ #[.int .i64 v] 2 rfl (by simp [Value.oneCell']) b cap _ _ rfl rfl HR.out (by omega) (by decide) ?_; intro b4 cap4 w4 hr4 hg4 hgr4; have B4 := Lib.hid (hgr4.below hbb hzw); have e14 := (B4.out.cell (p := ⟨b3, o3 + kk, none⟩) (by simp; omega)).trans e1; have e24 := (B4.out.cell (p := ⟨b3, o3 + k1, none⟩) (by simp; omega)).trans e2; have hz4 := B4.out.size; have HR4 := Lib.hid hr4; have hb4 : w.heap.size ≤ b4 := (by omega); clear hr4 hgr4) | (at_builtin; refine wpList_app rfl _ _ _ rfl 2 (.int .i64 0) 1 8 Try.underlying27 infoInt rfl (by decide) _ #[.int .i64 v] 2 rfl (by simp [Value.oneCell']) b4 cap4 _ _ rfl rfl HR4.out (by omega) (by decide) ?_; intro b5 cap5 w5 hr5 hg5 hgr5; have B5 := Lib.hid (hgr5.below hb4 (Nat.le_trans hzw hz4)); have HR5 := Lib.hid hr5; have hb5 : w.heap.size ≤ b5 := (by omega); clear hr5 hgr5))
          go_roundw
          case rel =>
            refine ⟨k + 1, k2, b5, cap5, by omega, HK2, rfl, by rw [HSUC.out]; simp, ?_, hb5, Lib.hid (HW.out.trans (B4.out.trans B5.out))⟩
            rw [HSUC.out]
            refine Lib.hid ?_
            have := HR5.out
            simp at this ⊢
            exact this
          case measure => have := HK2.out; have := HKK.out; simp [intOf]; omega
        · subst h1
          go_wp2_with (at_builtin; refine wpList_app rfl _ _ _ rfl 2 (.int .i64 0) 1 8 Try.underlying27 infoInt rfl (by decide) _ #[.int .i64 v] 2 rfl (by simp [Value.oneCell']) b cap _ _ rfl rfl HR.out (by omega) (by decide) ?_; intro b4 cap4 w4 hr4 hg4 hgr4; have B4 := Lib.hid (hgr4.below hbb hzw); have e14 := (B4.out.cell (p := ⟨b3, o3 + kk, none⟩) (by simp; omega)).trans e1; have e24 := (B4.out.cell (p := ⟨b3, o3 + k1, none⟩) (by simp; omega)).trans e2; have hz4 := B4.out.size; have HR4 := Lib.hid hr4; have hb4 : w.heap.size ≤ b4 := (by omega); clear hr4 hgr4)
          go_roundw
          case rel =>
            refine ⟨k + 1, k2, b4, cap4, by omega, HK2, rfl, by rw [HSUC.out]; simp [h2], ?_, hb4, Lib.hid (HW.out.trans B4.out)⟩
            rw [HSUC.out]
            refine Lib.hid ?_
            have := HR4.out
            simpa [h2] using this
          case measure => have := HK2.out; have := HKK.out; simp [intOf]; omega
      · by_cases h2 : v = x
        · subst h2
          go_wp2_with (at_builtin; refine wpList_app rfl _ _ _ rfl 2 (.int .i64 0) 1 8 Try.underlying27 infoInt rfl (by decide) _ #[.int .i64 u] 2 rfl (by simp [Value.oneCell']) b cap _ _ rfl rfl HR.out (by omega) (by decide) ?_; intro b4 cap4 w4 hr4 hg4 hgr4; have B4 := Lib.hid (hgr4.below hbb hzw); have e14 := (B4.out.cell (p := ⟨b3, o3 + kk, none⟩) (by simp; omega)).trans e1; have e24 := (B4.out.cell (p := ⟨b3, o3 + k1, none⟩) (by simp; omega)).trans e2; have hz4 := B4.out.size; have HR4 := Lib.hid hr4; have hb4 : w.heap.size ≤ b4 := (by omega); clear hr4 hgr4)
          go_roundw
          case rel =>
            refine ⟨k + 1, k2, b4, cap4, by omega, HK2, rfl, by rw [HSUC.out]; simp [h1], ?_, hb4, Lib.hid (HW.out.trans B4.out)⟩
            rw [HSUC.out]
            refine Lib.hid ?_
            have := HR4.out
            simpa [h1] using this
          case measure => have := HK2.out; have := HKK.out; simp [intOf]; omega
        · go_wp2_with fail
          go_roundw
          case rel => exact ⟨k + 1, k2, b, cap, by omega, HK2, rfl, by rw [HSUC.out]; simp [h1, h2], by rw [HSUC.out]; simpa [h1, h2] using HR, hbb, HW⟩
          case measure => have := HK2.out; have := HKK.out; simp [intOf]; omega
    · have hkm : k = m := by omega
      subst hkm
      have t2 : IntKind.i64.wrap ((kk : Int) + 1) = (kk : Int) + 1 := by rw [IntKind.wrap_i64]; omega
      have t4 : ¬ ((kk : Int) + 1 < (xs.length : Int)) := by omega
      clear hml hkk
      go_wp2_with fail
      go_ret
      exact ⟨⟨b, cap, rfl, HR.out, hbb⟩, HW.out⟩
end Go.Proofs.Ytbmahankleijkaa

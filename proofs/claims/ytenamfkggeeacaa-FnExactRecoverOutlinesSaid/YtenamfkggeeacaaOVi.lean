/- Valid outlines: the reference's l07Is, and the program's functions. -/
import Derived.Test.YtenamfkggeeacaaOVal
namespace Go.Proofs.Ytenamfkggeeacaa
open Go.RowKit Go.Fl

set_option maxHeartbeats 1000000 in
theorem l07Is (lo hi p : Nat) (ao : Option Addr) (c : Nat) (nm : ByteArray) (ls : List (List Cx)) (hnm : nm.size ≤ 1048576) (hn : ls.length ≤ 1048576) (hsh : ∀ i, i < ls.length → (lpAt ls i).length ≤ 1048576) (w : World)
    (hp0 : w.cell? ⟨p, 0, none⟩ = some (.string nm)) (hp1 : w.cell? ⟨p, 1, none⟩ = some (.slice ao ls.length c)) (hs : SlL w lo hi ao ls) :
    Calls Try.prog 22 #[.pointer (some ⟨p, 0, none⟩)] w fun e w' => e = .returned (.bool (decide (okOut nm ls))) ∧ ∃ n, w' = w.drewN n := by
  have HS := Lib.hid hs
  have HSH := Lib.hid hsh
  clear hs hsh
  go_enter Try.func22, Try.ntmps22
  by_cases h1 : okName nm
  · have e1 : decide (okName nm) = true := decide_eq_true h1
    have H1 := Lib.hid h1
    clear h1
    by_cases h2 : 1 ≤ ls.length
    · have h2' : ¬ (ls.length : Int) < 1 := by omega
      by_cases h3 : ls.length ≤ 4
      · have h3' : ¬ (4 : Int) < (ls.length : Int) := by omega
        go_wp2_with (go_at_call 32; refine (l07Name _ hnm _).mono ?_; rintro e w' ⟨rfl, hw⟩; rw [hw, e1])
        go_loopw [3, 31] (fun _ i wr => ∃ k q : Nat, k ≤ ls.length ∧ i = .int .i64 k ∧ wr = w.drewN q ∧ Hid ((ls.take k).all okLoop = true)) (fun _ i _ => ls.length - (intOf i).toNat)
        case atStart => exact ⟨0, 0, by omega, rfl, rfl, rfl⟩
        case round =>
          obtain ⟨k, q, hk, rfl, rfl, HA⟩ := hrel
          by_cases hlt : k < ls.length
          · obtain ⟨b, rfl, _, _, hc⟩ := HS.out (by omega)
            obtain ⟨ai, ci, c1, s1⟩ := hc k hlt
            have S1 := Lib.hid s1
            have hlk := HSH.out k hlt
            clear hc s1
            have k0 : (0 : Int) ≤ (k : Int) := by omega
            have k1 : (k : Int) < (ls.length : Int) := by omega
            cases hp : okLoop (lpAt ls k)
            · have hno : decide (okOut nm ls) = false := decide_eq_false (fun h => by have := h.2.2.2; rw [all_no [] hlt hp] at this; cases this)
              have HNO := Lib.hid hno
              clear hno
              go_wp2_with (go_at_call 33; refine (l03Loop lo hi ai ci _ hlk _ (show SlC (w.drewN q) lo hi ai _ from S1.out)).mono ?_; rintro e w' ⟨rfl, n, rfl⟩; rw [hp])
              go_ret
              exact ⟨ret_bool HNO.out.symm, (by (try simp only [World.drewN_drewN]); exact ⟨_, rfl⟩)⟩
            · have HY := Lib.hid (all_snoc [] hlt HA.out hp)
              go_wp2_with (go_at_call 33; refine (l03Loop lo hi ai ci _ hlk _ (show SlC (w.drewN q) lo hi ai _ from S1.out)).mono ?_; rintro e w' ⟨rfl, n, rfl⟩; rw [hp])
              go_roundw
              case rel => exact ⟨k + 1, _, by omega, by go_num, rfl, HY⟩
              case measure => simp [intOf]; omega
          · have e : ls.take k = ls := List.take_of_length_le (by omega)
            have hy : decide (okOut nm ls) = true := decide_eq_true ⟨H1.out, h2, h3, by rw [← e]; exact HA.out⟩
            have HY := Lib.hid hy
            clear hy
            go_wp2_with fail
            go_ret
            exact ⟨ret_bool HY.out.symm, _, rfl⟩
      · have h3' : (4 : Int) < (ls.length : Int) := by omega
        have HNO := Lib.hid (show decide (okOut nm ls) = false from decide_eq_false (fun h => h3 h.2.2.1))
        go_wp2_with (go_at_call 32; refine (l07Name _ hnm _).mono ?_; rintro e w' ⟨rfl, hw⟩; rw [hw, e1])
        go_ret
        exact ⟨ret_bool HNO.out.symm, 0, rfl⟩
    · have h2' : (ls.length : Int) < 1 := by omega
      have HNO := Lib.hid (show decide (okOut nm ls) = false from decide_eq_false (fun h => h2 h.2.1))
      go_wp2_with (go_at_call 32; refine (l07Name _ hnm _).mono ?_; rintro e w' ⟨rfl, hw⟩; rw [hw, e1])
      go_ret
      exact ⟨ret_bool HNO.out.symm, 0, rfl⟩
  · have e1 : decide (okName nm) = false := decide_eq_false h1
    have HNO := Lib.hid (show decide (okOut nm ls) = false from decide_eq_false (fun h => h1 h.1))
    clear h1
    go_wp2_with (go_at_call 32; refine (l07Name _ hnm _).mono ?_; rintro e w' ⟨rfl, hw⟩; rw [hw, e1])
    go_ret
    exact ⟨ret_bool HNO.out.symm, 0, rfl⟩

/-! ### the program's -/
theorem implIsFinite (x : Nat) (w : World) : Calls Try.prog 73 #[.float .f32 x] w fun e w' => e = .returned (.bool (fin (can .f32 x))) ∧ ∃ n, w' = w.drewN n := by
  go_enter Try.func73, Try.ntmps73
  go_wp2_with fail
  go_ret
  exact ⟨ret_bool (F32.eq (F32.sub (F32.mk x) (F32.mk x)) F32.zero), _, rfl⟩
theorem isFiniteComplex (z : Cx) (w : World) : Calls Try.prog 71 #[cV z] w fun e w' => e = .returned (.bool (okPt z)) ∧ ∃ n, w' = w.drewN n := by
  unfold cV okPt
  go_enter Try.func71, Try.ntmps71
  cases h1 : fin (can .f32 z.1)
  · go_wp2_with (go_at_call 73; refine (implIsFinite _ _).mono ?_; rintro e w' ⟨rfl, n, rfl⟩)
    go_ret
    exact ⟨rfl, _, rfl⟩
  · go_wp2_with (go_at_call 73; refine (implIsFinite _ _).mono ?_; rintro e w' ⟨rfl, n, rfl⟩)
    go_ret
    refine ⟨?_, (by (try simp only [World.drewN_drewN]); exact ⟨_, rfl⟩)⟩
    simp [*]
theorem arePoints1 (z : Cx) (w : World) : Calls Try.prog 70 #[cV z] w fun e w' => e = .returned (.bool (!okPt z)) ∧ ∃ n, w' = w.drewN n := by
  go_enter Try.func70, Try.ntmps70
  go_wp2_with (go_at_call 71; refine (isFiniteComplex _ _).mono ?_; rintro e w' ⟨rfl, n, rfl⟩)
  go_ret
  exact ⟨rfl, _, rfl⟩
theorem any_noP {α : Type} (p : α → Bool) (xs : List α) : (!xs.any fun x => !p x) = xs.all p := by
  induction xs with
  | nil => rfl
  | cons x xs ih => simp only [List.any_cons, List.all_cons, Bool.not_or, Bool.not_not, ih]
set_option maxHeartbeats 1000000 in
theorem indexC (lo hi : Nat) (ao : Option Addr) (c : Nat) (l : List Cx) (hn : l.length ≤ 1048576) (w : World) (hs : SlC w lo hi ao l) :
    Calls Try.prog 72 #[.slice ao l.length c, .func (.func 70) #[] #[]] w fun e w' => e = .returned (.int .i64 (idx (fun z => !okPt z) l)) ∧ ∃ n, w' = w.drewN n := by
  have HS := Lib.hid hs
  clear hs
  have hgo : ∀ args w, Sem.run Try.prog (callFunc 70 args) w = .ok (.enter 70 args) w := fun _ _ => rfl
  go_enter Try.func72, Try.ntmps72
  go_wp2_with fail
  go_loopw [5, 8] (fun _ i wr => ∃ k q : Nat, k ≤ l.length ∧ i = .int .i64 k ∧ wr = w.drewN q ∧ Hid ((l.take k).any (fun z => !okPt z) = false)) (fun _ i _ => l.length - (intOf i).toNat)
  case atStart => exact ⟨0, 0, by omega, rfl, rfl, rfl⟩
  case round =>
    obtain ⟨k, q, hk, rfl, rfl, HA⟩ := hrel
    by_cases hlt : k < l.length
    · obtain ⟨b, rfl, _, _, hc⟩ := HS.out (by omega)
      have c1 := hc k hlt
      clear hc
      have k0 : (0 : Int) ≤ (k : Int) := by omega
      have k1 : (k : Int) < (l.length : Int) := by omega
      have hck : cAt l k = l[k] := by simp [cAt, hlt]
      have HCK := Lib.hid hck
      clear hck
      cases hp : okPt (cAt l k)
      · have HX := Lib.hid (idx_some hlt HA.out (show (!okPt l[k]) = true by rw [← HCK.out, hp]; rfl))
        go_wp2_with fail
        refine (arePoints1 _ _).mono ?_
        rintro e w' ⟨rfl, n, rfl⟩
        rw [hp]
        go_wp2_with fail
        go_ret
        exact ⟨ret_int HX.out.symm, (by (try simp only [World.drewN_drewN]); exact ⟨_, rfl⟩)⟩
      · have HY := Lib.hid (any_snoc hlt HA.out (show (!okPt l[k]) = false by rw [← HCK.out, hp]; rfl))
        go_wp2_with fail
        refine (arePoints1 _ _).mono ?_
        rintro e w' ⟨rfl, n, rfl⟩
        rw [hp]
        go_wp2_with fail
        go_roundw
        case rel => exact ⟨k + 1, _, by omega, by go_num, rfl, HY⟩
        case measure => simp [intOf]; omega
    · have e : l.take k = l := List.take_of_length_le (by omega)
      have HX := Lib.hid (idx_none (by have := HA.out; rw [e] at this; exact this))
      go_wp2_with fail
      go_ret
      exact ⟨ret_int HX.out.symm, _, rfl⟩
theorem arePoints (lo hi : Nat) (ao : Option Addr) (c : Nat) (l : List Cx) (hn : l.length ≤ 1048576) (w : World) (hs : SlC w lo hi ao l) :
    Calls Try.prog 65 #[.slice ao l.length c] w fun e w' => e = .returned (.bool (l.all okPt)) ∧ ∃ n, w' = w.drewN n := by
  have HS := Lib.hid hs
  clear hs
  have hcf : Calls Try.prog 69 #[.slice ao l.length c, .func (.func 70) #[] #[]] w fun e w' => e = .returned (.bool (l.any (fun z => !okPt z))) ∧ ∃ n, w' = w.drewN n := by
    go_enter Try.func69, Try.ntmps69
    go_wp2_with fail
    refine (indexC lo hi ao c l hn _ HS.out).mono ?_
    rintro e w' ⟨rfl, n, rfl⟩
    go_wp2_with fail
    go_ret
    exact ⟨ret_bool (idx_ge _ l), _, rfl⟩
  have HCF := Lib.hid hcf
  clear hcf
  go_enter Try.func65, Try.ntmps65
  go_wp2_with fail
  refine HCF.out.mono ?_
  rintro e w' ⟨rfl, n, rfl⟩
  go_wp2_with fail
  go_ret
  exact ⟨ret_bool (any_noP _ _), _, rfl⟩
theorem isLoop (lo hi : Nat) (ao : Option Addr) (c : Nat) (l : List Cx) (hn : l.length ≤ 1048576) (w : World) (hs : SlC w lo hi ao l) :
    Calls Try.prog 54 #[.slice ao l.length c] w fun e w' => e = .returned (.bool (okLoop l)) ∧ ∃ n, w' = w.drewN n := by
  have HS := Lib.hid hs
  clear hs
  go_enter Try.func54, Try.ntmps54
  by_cases h1 : 3 ≤ l.length
  · have h1' : (3 : Int) ≤ (l.length : Int) := by omega
    by_cases h2 : l.length ≤ 64
    · have h2' : (l.length : Int) ≤ 64 := by omega
      go_wp2_with (go_at_call 65; refine (arePoints lo hi ao c l hn _ HS.out).mono ?_; rintro e w' ⟨rfl, n, rfl⟩)
      go_ret
      exact ⟨by simp [okLoop, h1, h2], _, rfl⟩
    · have h2' : ¬ (l.length : Int) ≤ 64 := by omega
      go_wp2_with fail
      go_ret
      exact ⟨by simp [okLoop, h1, h2], 0, rfl⟩
  · have h1' : ¬ (3 : Int) ≤ (l.length : Int) := by omega
    go_wp2_with fail
    go_ret
    exact ⟨by simp [okLoop, h1], 0, rfl⟩
theorem validOutline1 (lo hi : Nat) (ao : Option Addr) (c : Nat) (l : List Cx) (hn : l.length ≤ 1048576) (w : World) (hs : SlC w lo hi ao l) :
    Calls Try.prog 53 #[.slice ao l.length c] w fun e w' => e = .returned (.bool (!okLoop l)) ∧ ∃ n, w' = w.drewN n := by
  have HS := Lib.hid hs
  clear hs
  go_enter Try.func53, Try.ntmps53
  go_wp2_with (go_at_call 54; refine (isLoop lo hi ao c l hn _ HS.out).mono ?_; rintro e w' ⟨rfl, n, rfl⟩)
  go_ret
  exact ⟨rfl, _, rfl⟩
set_option maxHeartbeats 1000000 in
theorem indexL (lo hi : Nat) (ao : Option Addr) (c : Nat) (ls : List (List Cx)) (hn : ls.length ≤ 1048576) (hsh : ∀ i, i < ls.length → (lpAt ls i).length ≤ 1048576) (w : World) (hs : SlL w lo hi ao ls) :
    Calls Try.prog 64 #[.slice ao ls.length c, .func (.func 53) #[] #[]] w fun e w' => e = .returned (.int .i64 (idx (fun z => !okLoop z) ls)) ∧ ∃ n, w' = w.drewN n := by
  have HS := Lib.hid hs
  have HSH := Lib.hid hsh
  clear hs hsh
  have hgo : ∀ args w, Sem.run Try.prog (callFunc 53 args) w = .ok (.enter 53 args) w := fun _ _ => rfl
  go_enter Try.func64, Try.ntmps64
  go_wp2_with fail
  go_loopw [5, 8] (fun _ i wr => ∃ k q : Nat, k ≤ ls.length ∧ i = .int .i64 k ∧ wr = w.drewN q ∧ Hid ((ls.take k).any (fun z => !okLoop z) = false)) (fun _ i _ => ls.length - (intOf i).toNat)
  case atStart => exact ⟨0, 0, by omega, rfl, rfl, rfl⟩
  case round =>
    obtain ⟨k, q, hk, rfl, rfl, HA⟩ := hrel
    by_cases hlt : k < ls.length
    · obtain ⟨b, rfl, _, _, hc⟩ := HS.out (by omega)
      obtain ⟨ai, ci, c1, s1⟩ := hc k hlt
      have S1 := Lib.hid s1
      have hlk := HSH.out k hlt
      clear hc s1
      have k0 : (0 : Int) ≤ (k : Int) := by omega
      have k1 : (k : Int) < (ls.length : Int) := by omega
      have hck : lpAt ls k = ls[k] := by simp [lpAt, hlt]
      have HCK := Lib.hid hck
      clear hck
      cases hp : okLoop (lpAt ls k)
      · have HX := Lib.hid (idx_some hlt HA.out (show (!okLoop ls[k]) = true by rw [← HCK.out, hp]; rfl))
        go_wp2_with fail
        refine (validOutline1 lo hi ai ci _ hlk _ (show SlC (w.drewN q) lo hi ai _ from S1.out)).mono ?_
        rintro e w' ⟨rfl, n, rfl⟩
        rw [hp]
        go_wp2_with fail
        go_ret
        exact ⟨ret_int HX.out.symm, (by (try simp only [World.drewN_drewN]); exact ⟨_, rfl⟩)⟩
      · have HY := Lib.hid (any_snoc hlt HA.out (show (!okLoop ls[k]) = false by rw [← HCK.out, hp]; rfl))
        go_wp2_with fail
        refine (validOutline1 lo hi ai ci _ hlk _ (show SlC (w.drewN q) lo hi ai _ from S1.out)).mono ?_
        rintro e w' ⟨rfl, n, rfl⟩
        rw [hp]
        go_wp2_with fail
        go_roundw
        case rel => exact ⟨k + 1, _, by omega, by go_num, rfl, HY⟩
        case measure => simp [intOf]; omega
    · have e : ls.take k = ls := List.take_of_length_le (by omega)
      have HX := Lib.hid (idx_none (by have := HA.out; rw [e] at this; exact this))
      go_wp2_with fail
      go_ret
      exact ⟨ret_int HX.out.symm, _, rfl⟩
theorem containsL (lo hi : Nat) (ao : Option Addr) (c : Nat) (ls : List (List Cx)) (hn : ls.length ≤ 1048576) (hsh : ∀ i, i < ls.length → (lpAt ls i).length ≤ 1048576) (w : World) (hs : SlL w lo hi ao ls) :
    Calls Try.prog 52 #[.slice ao ls.length c, .func (.func 53) #[] #[]] w fun e w' => e = .returned (.bool (!ls.all okLoop)) ∧ ∃ n, w' = w.drewN n := by
  have HS := Lib.hid hs
  have HSH := Lib.hid hsh
  clear hs hsh
  go_enter Try.func52, Try.ntmps52
  go_wp2_with fail
  refine (indexL lo hi ao c ls hn HSH.out _ HS.out).mono ?_
  rintro e w' ⟨rfl, n, rfl⟩
  go_wp2_with fail
  go_ret
  exact ⟨ret_bool ((idx_ge _ ls).trans (by rw [← any_noP, Bool.not_not])), _, rfl⟩
end Go.Proofs.Ytenamfkggeeacaa

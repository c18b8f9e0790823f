/- Valid outlines: the reference's l07Is, and the program's functions. -/
import Derived.Test.YtkbikfifnaihlaaOVal
namespace Go.Proofs.Ytkbikfifnaihlaa
open Go.RowKit Go.Fl

/-! ### the program's -/
theorem implIsFinite (x : Nat) (w : World) : Calls Try.prog 30 #[.float .f32 x] w fun e w' => e = .returned (.bool (fin (can .f32 x))) ∧ ∃ n, w' = w.drewN n := by
  go_enter Try.func30, Try.ntmps30
  go_wp2_with fail
  go_ret
  exact ⟨ret_bool (F32.eq (F32.sub (F32.mk x) (F32.mk x)) F32.zero), _, rfl⟩
theorem isFiniteComplex (z : Cx) (w : World) : Calls Try.prog 26 #[cV z] w fun e w' => e = .returned (.bool (okPt z)) ∧ ∃ n, w' = w.drewN n := by
  unfold cV okPt
  go_enter Try.func26, Try.ntmps26
  cases h1 : fin (can .f32 z.1)
  · go_wp2_with (go_at_call 30; refine (implIsFinite _ _).mono ?_; rintro e w' ⟨rfl, n, rfl⟩)
    go_ret
    exact ⟨rfl, _, rfl⟩
  · go_wp2_with (go_at_call 30; refine (implIsFinite _ _).mono ?_; rintro e w' ⟨rfl, n, rfl⟩)
    go_ret
    refine ⟨?_, (by (try simp only [World.drewN_drewN]); exact ⟨_, rfl⟩)⟩
    simp [*]
theorem arePoints1 (z : Cx) (w : World) : Calls Try.prog 47 #[cV z] w fun e w' => e = .returned (.bool (!okPt z)) ∧ ∃ n, w' = w.drewN n := by
  go_enter Try.func47, Try.ntmps47
  go_wp2_with (go_at_call 26; refine (isFiniteComplex _ _).mono ?_; rintro e w' ⟨rfl, n, rfl⟩)
  go_ret
  exact ⟨rfl, _, rfl⟩
theorem any_noP {α : Type} (p : α → Bool) (xs : List α) : (!xs.any fun x => !p x) = xs.all p := by
  induction xs with
  | nil => rfl
  | cons x xs ih => simp only [List.any_cons, List.all_cons, Bool.not_or, Bool.not_not, ih]
set_option maxHeartbeats 1000000 in
theorem indexC (lo hi : Nat) (ao : Option Addr) (c : Nat) (l : List Cx) (hn : l.length ≤ 1048576) (w : World) (hs : SlC w lo hi ao l) :
    Calls Try.prog 65 #[.slice ao l.length c, .func (.func 47) #[] #[]] w fun e w' => e = .returned (.int .i64 (idx (fun z => !okPt z) l)) ∧ ∃ n, w' = w.drewN n := by
  have HS := Lib.hid hs
  clear hs
  have hgo : ∀ args w, Sem.run Try.prog (callFunc 47 args) w = .ok (.enter 47 args) w := fun _ _ => rfl
  go_enter Try.func65, Try.ntmps65
  go_wp2_with fail
  go_loopw [5, 8] (fun _ i wr => ∃ k q : Nat, k ≤ l.length ∧ i = .int .i64 k ∧ wr = w.drewN q ∧ Hid ((l.take k).any (fun z => !okPt z) = false)) (fun _ i _ => l.length - (intOf i).toNat)
  case atStart => exact ⟨0, 0, by omega, rfl, rfl, rfl⟩
  case round =>
    obtain ⟨k, q, hk, rfl, rfl, HA⟩ := hrel
    by_cases hlt : k < l.length
    · obtain ⟨b, rfl, _, _, hc⟩ := HS.out (by omega)
      have c1 := hc k hlt
      clear hc
      have k0 : (0 : Int) ≤ (k : Int) := by omega
      have k1 : (k : Int) < (l.length : Int) := by omega
      have hck : cAt l k = l[k] := by simp [cAt, hlt]
      have HCK := Lib.hid hck
      clear hck
      cases hp : okPt (cAt l k)
      · have HX := Lib.hid (idx_some hlt HA.out (show (!okPt l[k]) = true by rw [← HCK.out, hp]; rfl))
        go_wp2_with fail
        refine (arePoints1 _ _).mono ?_
        rintro e w' ⟨rfl, n, rfl⟩
        rw [hp]
        go_wp2_with fail
        go_ret
        exact ⟨ret_int HX.out.symm, (by (try simp only [World.drewN_drewN]); exact ⟨_, rfl⟩)⟩
      · have HY := Lib.hid (any_snoc hlt HA.out (show (!okPt l[k]) = false by rw [← HCK.out, hp]; rfl))
        go_wp2_with fail
        refine (arePoints1 _ _).mono ?_
        rintro e w' ⟨rfl, n, rfl⟩
        rw [hp]
        go_wp2_with fail
        go_roundw
        case rel => exact ⟨k + 1, _, by omega, by go_num, rfl, HY⟩
        case measure => simp [intOf]; omega
    · have e : l.take k = l := List.take_of_length_le (by omega)
      have HX := Lib.hid (idx_none (by have := HA.out; rw [e] at this; exact this))
      go_wp2_with fail
      go_ret
      exact ⟨ret_int HX.out.symm, _, rfl⟩
theorem arePoints (lo hi : Nat) (ao : Option Addr) (c : Nat) (l : List Cx) (hn : l.length ≤ 1048576) (w : World) (hs : SlC w lo hi ao l) :
    Calls Try.prog 19 #[.slice ao l.length c] w fun e w' => e = .returned (.bool (l.all okPt)) ∧ ∃ n, w' = w.drewN n := by
  have HS := Lib.hid hs
  clear hs
  have hcf : Calls Try.prog 46 #[.slice ao l.length c, .func (.func 47) #[] #[]] w fun e w' => e = .returned (.bool (l.any (fun z => !okPt z))) ∧ ∃ n, w' = w.drewN n := by
    go_enter Try.func46, Try.ntmps46
    go_wp2_with fail
    refine (indexC lo hi ao c l hn _ HS.out).mono ?_
    rintro e w' ⟨rfl, n, rfl⟩
    go_wp2_with fail
    go_ret
    exact ⟨ret_bool (idx_ge _ l), _, rfl⟩
  have HCF := Lib.hid hcf
  clear hcf
  go_enter Try.func19, Try.ntmps19
  go_wp2_with fail
  refine HCF.out.mono ?_
  rintro e w' ⟨rfl, n, rfl⟩
  go_wp2_with fail
  go_ret
  exact ⟨ret_bool (any_noP _ _), _, rfl⟩
end Go.Proofs.Ytkbikfifnaihlaa

/- Contracts of the small functions on numbers. -/
import Derived.Test.YtfpkdnopbnppmaaProg
import Derived.Test.YtfpkdnopbnppmaaPl
namespace Go.Proofs.Ytfpkdnopbnppmaa
open Go.RowKit Go.Fl

def Goes (g : Nat) : Prop := ∀ args w, Sem.run Try.prog (callFunc g args) w = .ok (.enter g args) w

set_option maxHeartbeats 400000 in
theorem indexFunc (p : Nat → Bool) (g : Nat) (hg : Goes g) (hf : ∀ x w, Calls Try.prog g #[.float .f32 x] w fun e w' => e = .returned (.bool (p x)) ∧ ∃ n, w' = w.drewN n)
    (xs : List Nat) (v : Value) (w : World) (hs : SlF w v xs) :
    Calls Try.prog 28 #[v, .func (.func g) #[] #[]] w fun e w' => e = .returned (.int .i64 (idx p xs)) ∧ ∃ n, w' = w.drewN n := by
  have HF := Lib.hid hf
  clear hf
  have hgo : ∀ args w, Sem.run Try.prog (callFunc g args) w = .ok (.enter g args) w := hg
  rcases hs with ⟨rfl, rfl⟩ | ⟨b, off, cap, rfl, hm, hc⟩
  · go_enter Try.func28, Try.ntmps28
    go_wp2_with fail
    refine wp_loop_rounds 1 ?_
    rw [rounds_succ]
    go_wp2_with fail
    go_ret
    exact ⟨rfl, 0, rfl⟩
  go_enter Try.func28, Try.ntmps28
  go_wp2_with fail
  go_loopw [8] (fun i wr => ∃ k q : Nat, k ≤ xs.length ∧ i = .int .i64 k ∧ wr = w.drewN q ∧ (xs.take k).any p = false) (fun i _ => xs.length - (intOf i).toNat)
  case atStart => exact ⟨0, 0, by omega, rfl, rfl, rfl⟩
  case round =>
    obtain ⟨k, q, hk, rfl, rfl, hn⟩ := hrel
    by_cases hlt : k < xs.length
    · have hcell := hc k hlt
      have HN := Lib.hid hn
      clear hn hc
      go_wp2_with fail
      refine (HF.out _ _).mono ?_
      rintro e w' ⟨rfl, n, rfl⟩
      go_wp2_with fail
      · go_ret
        exact ⟨ret_int (idx_some hlt HN.out ‹_›).symm, _, rfl⟩
      · go_roundw
        case rel => exact ⟨k + 1, _, by omega, by go_num, rfl, any_snoc hlt HN.out ‹_›⟩
        case measure => simp [intOf]; omega
    · have HN := Lib.hid hn
      clear hn hc
      go_wp2_with fail
      go_ret
      have e : xs.take k = xs := List.take_of_length_le (by omega)
      exact ⟨ret_int (idx_none (by rw [← e]; exact HN.out)).symm, _, rfl⟩

theorem containsFunc (p : Nat → Bool) (g : Nat) (hg : Goes g) (hf : ∀ x w, Calls Try.prog g #[.float .f32 x] w fun e w' => e = .returned (.bool (p x)) ∧ ∃ n, w' = w.drewN n)
    (xs : List Nat) (v : Value) (w : World) (hs : SlF w v xs) :
    Calls Try.prog 22 #[v, .func (.func g) #[] #[]] w fun e w' => e = .returned (.bool (xs.any p)) ∧ ∃ n, w' = w.drewN n := by
  have HF := Lib.hid hf
  have HS := Lib.hid hs
  clear hf hs
  go_enter Try.func22, Try.ntmps22
  go_wp2_with fail
  refine (indexFunc p g hg HF.out xs v _ HS.out).mono ?_
  rintro e w' ⟨rfl, n, rfl⟩
  go_wp2_with fail
  go_ret
  exact ⟨ret_bool (idx_ge p xs), _, rfl⟩

theorem implIsFinite (x : Nat) (w : World) : Calls Try.prog 17 #[.float .f32 x] w fun e w' => e = .returned (.bool (fin (can .f32 x))) ∧ ∃ n, w' = w.drewN n := by
  go_enter Try.func17, Try.ntmps17
  go_wp2_with fail
  go_ret
  exact ⟨ret_bool (F32.eq (F32.sub (F32.mk x) (F32.mk x)) F32.zero), _, rfl⟩
theorem ifNumber (x : Nat) (w : World) : Calls Try.prog 21 #[.float .f32 x] w fun e w' => (∃ r, e = .returned (.tuple #[.float .f32 r, .bool (fin (can .f32 x))]) ∧ F32 r (ifFin (can .f32 x))) ∧ ∃ n, w' = w.drewN n := by
  cases hf : fin (can .f32 x)
  all_goals
   go_enter Try.func21, Try.ntmps21
   go_wp2_with (go_at_call 17; refine (implIsFinite _ _).mono ?_; rintro e w' ⟨rfl, n, rfl⟩)
   go_ret2
   exact ⟨⟨_, rfl, by first | exact F32.ifFin_no hf | exact F32.ifFin_yes hf⟩, _, rfl⟩
theorem areMore1 (x : Nat) (w : World) : Calls Try.prog 23 #[.float .f32 x] w fun e w' => e = .returned (.bool (!above (can .f32 x))) ∧ ∃ n, w' = w.drewN n := by
  go_enter Try.func23, Try.ntmps23
  go_wp2_with (go_at_call 17; refine (implIsFinite _ _).mono ?_; rintro e w' ⟨rfl, n, rfl⟩)
  all_goals
    go_ret
    exact ⟨ret_bool (by simp [above, ← F32.gt (F32.mk x) F32.zero, *]), _, rfl⟩
theorem areFinite1 (x : Nat) (w : World) : Calls Try.prog 27 #[.float .f32 x] w fun e w' => e = .returned (.bool (!fin (can .f32 x))) ∧ ∃ n, w' = w.drewN n := by
  go_enter Try.func27, Try.ntmps27
  go_wp2_with (go_at_call 17; refine (implIsFinite _ _).mono ?_; rintro e w' ⟨rfl, n, rfl⟩)
  all_goals
    go_ret
    exact ⟨rfl, _, rfl⟩
theorem any_not {α : Type} (p : α → Bool) (xs : List α) : (!xs.any fun x => !p x) = xs.all p := by
  induction xs with
  | nil => rfl
  | cons x xs ih => simp only [List.any_cons, List.all_cons, Bool.not_or, Bool.not_not, ih]
theorem areMore (xs : List Nat) (v : Value) (w : World) (hs : SlF w v xs) :
    Calls Try.prog 11 #[v] w fun e w' => e = .returned (.bool (xs.all fun x => above (can .f32 x))) ∧ ∃ n, w' = w.drewN n := by
  have HS := Lib.hid hs
  clear hs
  go_enter Try.func11, Try.ntmps11
  go_wp2_with fail
  refine (containsFunc _ _ (fun _ _ => rfl) (fun x w => areMore1 x w) xs v _ HS.out).mono ?_
  rintro e w' ⟨rfl, n, rfl⟩
  go_wp2_with fail
  go_ret
  exact ⟨ret_bool (any_not _ _), _, rfl⟩
theorem areFinite (xs : List Nat) (v : Value) (w : World) (hs : SlF w v xs) :
    Calls Try.prog 16 #[v] w fun e w' => e = .returned (.bool (xs.all fun x => fin (can .f32 x))) ∧ ∃ n, w' = w.drewN n := by
  have HS := Lib.hid hs
  clear hs
  go_enter Try.func16, Try.ntmps16
  go_wp2_with fail
  refine (containsFunc _ _ (fun _ _ => rfl) (fun x w => areFinite1 x w) xs v _ HS.out).mono ?_
  rintro e w' ⟨rfl, n, rfl⟩
  go_wp2_with fail
  go_ret
  exact ⟨ret_bool (any_not _ _), _, rfl⟩
end Go.Proofs.Ytfpkdnopbnppmaa

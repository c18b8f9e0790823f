/- areFinite; a float's operation whose result is a number draws nothing. -/
import Derived.Test.YtkpjhoiaegioeaaRgD
namespace Go.Fl
open Ieee Go.RowKit
theorem run_fopN {op : BinOp} {K : FloatKind} {x y : Nat} (hn : isN K (fop op K x y) = true) : (∀ w, mop op K x y w = fop op K x y) ∧ mdr op K x y = 0 := by
  unfold fop at hn ⊢
  cases hb : floatBits op K x y with
  | some r => exact ⟨fun w => by unfold mop; rw [hb]; rfl, by unfold mdr; rw [hb]; rfl⟩
  | none =>
    rw [hb] at hn
    exfalso
    revert hn
    cases K <;> decide +kernel
theorem isN.canN {K : FloatKind} {x : Nat} (h : isN K x = true) : Go.Fl.can K x = x := can_of_not (by
  obtain ⟨s, m, i, hr, _⟩ := isN_read h
  unfold nanB; rw [hr]; rfl)
theorem Q.self {K : FloatKind} {x : Nat} (h : isN K x = true) : Q K x (V K x) (LP K) := ⟨h, by rw [Nat.sub_self]; simp, Nat.le_refl _⟩
theorem ord_V {K : FloatKind} {x y : Nat} (hx : isN K x = true) (hy : isN K y = true) : K.format.order x y = some (compare (V K x) (V K y)) := (Q.self hx).order (Q.self hy)
theorem isN.nan {K : FloatKind} {x : Nat} (h : isN K x = true) : nanB K x = false := by
  obtain ⟨s, m, i, hr, _⟩ := isN_read h
  unfold nanB; rw [hr]; rfl
theorem zero_N : isN .f32 0 = true ∧ V .f32 0 = 0 := ⟨by decide +kernel, by decide +kernel⟩
theorem finN {x : Nat} (h : isN .f32 x = true) : fin (can .f32 x) = true := by
  rw [isN.canN h]
  have h1 := near_sub h h (by rw [Int.sub_self]; exact Nat.zero_le _)
  rw [Int.sub_self] at h1
  have h2 : V .f32 (fop .sub .f32 x x) = 0 := by
    have a := h1.le 0 0 (by decide) (by simp)
    have b := h1.ge 0 0 (by decide) (by simp)
    simp at a b
    omega
  unfold fin feq
  show (FloatKind.f32.format.order (fop .sub .f32 x x) 0 == some .eq) = true
  rw [ord_V h1.num zero_N.1, h2, zero_N.2]
  rfl
/-- a row of numbers -/
def fRow (w : World) (b : Nat) (xs : List Nat) : Prop := ∀ i, i < xs.length → w.cell? ⟨b, i, none⟩ = some (.float .f32 (xs.getD i 0))
theorem fRow.of_row {w : World} {T : TypeId} {b cap n : Nat} {xs : List Nat} (h : ORow w T 1 b cap n (xs.map (Value.float .f32))) (hn : n = xs.length) : fRow w b xs := fun i hi => by
  rw [h.cell i (by omega), List.getElem?_map, List.getElem?_eq_getElem hi]
  simp [hi]
theorem fRow.slF {w : World} {b c n : Nat} {xs : List Nat} (h : fRow w b xs) (hn : n = xs.length) (hm : xs.length ≤ 1048576) : SlF w (.slice (some ⟨b, 0, none⟩) n c) xs := by
  subst hn
  exact .inr ⟨b, 0, c, rfl, by omega, fun i hi => by rw [Nat.zero_add]; exact h i hi⟩
end Go.Fl
namespace Go.Proofs.Ytkpjhoiaegioeaa
open Go.RowKit Go.Fl

theorem infoF32 : (Try.prog.info? 27).map (fun i => (i.zero, i.size, i.bytes)) = some (some (.float .f32 0), 1, 4) := by kernel_rfl
def Goes (g : Nat) : Prop := ∀ args w, Sem.run Try.prog (callFunc g args) w = .ok (.enter g args) w
set_option maxHeartbeats 1000000 in
theorem indexFunc (p : Nat → Bool) (g : Nat) (hg : Goes g) (hf : ∀ x w, Calls Try.prog g #[.float .f32 x] w fun e w' => e = .returned (.bool (p x)) ∧ ∃ n, w' = w.drewN n)
    (xs : List Nat) (v : Value) (w : World) (hs : SlF w v xs) :
    Calls Try.prog 82 #[v, .func (.func g) #[] #[]] w fun e w' => e = .returned (.int .i64 (idx p xs)) ∧ ∃ n, w' = w.drewN n := by
  have HF := Lib.hid hf
  clear hf
  have hgo : ∀ args w, Sem.run Try.prog (callFunc g args) w = .ok (.enter g args) w := hg
  rcases hs with ⟨rfl, rfl⟩ | ⟨b, off, cap, rfl, hm, hc⟩
  · go_enter Try.func82, Try.ntmps82
    go_wp2_with fail
    refine wp_loop_rounds 1 ?_
    rw [rounds_succ]
    go_wp2_with fail
    go_ret
    exact ⟨rfl, 0, rfl⟩
  go_enter Try.func82, Try.ntmps82
  go_wp2_with fail
  go_loopw [8] (fun i wr => ∃ k q : Nat, k ≤ xs.length ∧ i = .int .i64 k ∧ wr = w.drewN q ∧ (xs.take k).any p = false) (fun i _ => xs.length - (intOf i).toNat)
  case atStart => exact ⟨0, 0, by omega, rfl, rfl, rfl⟩
  case round =>
    obtain ⟨k, q, hk, rfl, rfl, hn⟩ := hrel
    by_cases hlt : k < xs.length
    · have hcell := hc k hlt
      have HN := Lib.hid hn
      clear hn hc
      go_wp2_with fail
      refine (HF.out _ _).mono ?_
      rintro e w' ⟨rfl, n, rfl⟩
      go_wp2_with fail
      · go_ret
        exact ⟨ret_int (idx_some hlt HN.out ‹_›).symm, _, rfl⟩
      · go_roundw
        case rel => exact ⟨k + 1, _, by omega, by go_num, rfl, any_snoc hlt HN.out ‹_›⟩
        case measure => simp [intOf]; omega
    · have HN := Lib.hid hn
      clear hn hc
      go_wp2_with fail
      go_ret
      have e : xs.take k = xs := List.take_of_length_le (by omega)
      exact ⟨ret_int (idx_none (by rw [← e]; exact HN.out)).symm, _, rfl⟩
theorem containsFunc (p : Nat → Bool) (g : Nat) (hg : Goes g) (hf : ∀ x w, Calls Try.prog g #[.float .f32 x] w fun e w' => e = .returned (.bool (p x)) ∧ ∃ n, w' = w.drewN n)
    (xs : List Nat) (v : Value) (w : World) (hs : SlF w v xs) :
    Calls Try.prog 72 #[v, .func (.func g) #[] #[]] w fun e w' => e = .returned (.bool (xs.any p)) ∧ ∃ n, w' = w.drewN n := by
  have HF := Lib.hid hf
  have HS := Lib.hid hs
  clear hf hs
  go_enter Try.func72, Try.ntmps72
  go_wp2_with fail
  refine (indexFunc p g hg HF.out xs v _ HS.out).mono ?_
  rintro e w' ⟨rfl, n, rfl⟩
  go_wp2_with fail
  go_ret
  exact ⟨ret_bool (idx_ge p xs), _, rfl⟩
theorem areFinite1 (x : Nat) (w : World) : Calls Try.prog 73 #[.float .f32 x] w fun e w' => e = .returned (.bool (!fin (can .f32 x))) ∧ ∃ n, w' = w.drewN n := by
  go_enter Try.func73, Try.ntmps73
  go_wp2_with (go_at_call 45; refine (implIsFinite _ _).mono ?_; rintro e w' ⟨rfl, n, rfl⟩)
  all_goals
    go_ret
    exact ⟨rfl, _, rfl⟩
theorem any_not {α : Type} (p : α → Bool) (xs : List α) : (!xs.any fun x => !p x) = xs.all p := by
  induction xs with
  | nil => rfl
  | cons x xs ih => simp only [List.any_cons, List.all_cons, Bool.not_or, Bool.not_not, ih]
theorem areFinite (xs : List Nat) (v : Value) (w : World) (hs : SlF w v xs) :
    Calls Try.prog 58 #[v] w fun e w' => e = .returned (.bool (xs.all fun x => fin (can .f32 x))) ∧ ∃ n, w' = w.drewN n := by
  have HS := Lib.hid hs
  clear hs
  go_enter Try.func58, Try.ntmps58
  go_wp2_with fail
  refine (containsFunc _ _ (fun _ _ => rfl) (fun x w => areFinite1 x w) xs v _ HS.out).mono ?_
  rintro e w' ⟨rfl, n, rfl⟩
  go_wp2_with fail
  go_ret
  exact ⟨ret_bool (any_not _ _), _, rfl⟩

end Go.Proofs.Ytkpjhoiaegioeaa

/- Contract: the closure of the program's question whether a net is valid. -/
import Derived.Test.YtbmahankleijkaaClo
namespace Go.Fl
/-- no two of the first t sides are the same -/
def Once (A B : List Int) (t : Nat) : Prop := ∀ s r, s < r → r < t → ¬ (iAt A s = iAt A r ∧ iAt B s = iAt B r)
/-- one of the first t sides goes from x to y -/
def SideOf (A B : List Int) (t : Nat) (x y : Int) : Prop := ∃ s, s < t ∧ iAt A s = x ∧ iAt B s = y
/-- the map of the sides that were seen -/
noncomputable def seenF (A B : List Int) (t : Nat) : Int → Int → Option Value := fun x y => if dec (SideOf A B t x y) then some (.bool true) else none
theorem Once.zero (A B : List Int) : Once A B 0 := fun _ r _ h => absurd h (Nat.not_lt_zero r)
theorem once_succ {A B : List Int} {t : Nat} : Once A B (t + 1) ↔ Once A B t ∧ ¬ SideOf A B t (iAt A t) (iAt B t) := by
  constructor
  · intro h
    exact ⟨fun s r h1 h2 => h s r h1 (by omega), fun ⟨s, h1, h2, h3⟩ => h s t h1 (by omega) ⟨h2, h3⟩⟩
  · rintro ⟨h1, h2⟩ s r h3 h4 ⟨h5, h6⟩
    by_cases hr : r = t
    · subst hr; exact h2 ⟨s, h3, h5, h6⟩
    · exact h1 s r h3 (by omega) ⟨h5, h6⟩
theorem SideOf.succ {A B : List Int} {t : Nat} {x y : Int} : SideOf A B (t + 1) x y ↔ (x = iAt A t ∧ y = iAt B t) ∨ SideOf A B t x y := by
  constructor
  · rintro ⟨s, h1, h2, h3⟩
    by_cases hs : s = t
    · subst hs; exact .inl ⟨h2.symm, h3.symm⟩
    · exact .inr ⟨s, by omega, h2, h3⟩
  · rintro (⟨rfl, rfl⟩ | ⟨s, h1, h2, h3⟩)
    · exact ⟨t, by omega, rfl, rfl⟩
    · exact ⟨s, by omega, h2, h3⟩
theorem OMap.congr {w : World} {b n : Nat} {f g : Int → Int → Option Value} (h : OMap w b n f) (hfg : ∀ x y, f x y = g x y) : OMap w b n g := by
  have : f = g := funext fun x => funext fun y => hfg x y
  exact this ▸ h
end Go.Fl
namespace Go.Proofs.Ytbmahankleijkaa
open Go.RowKit Go.Fl
theorem seenF_succ (A B : List Int) (t : Nat) (x y : Int) : put2 (seenF A B t) (iAt A t) (iAt B t) (.bool true) x y = seenF A B (t + 1) x y := by
  unfold put2 seenF
  by_cases h : x = iAt A t ∧ y = iAt B t
  · rw [if_pos h, dec_yes (SideOf.succ.2 (.inl h)), if_pos rfl]
  · rw [if_neg h, dec_iff (SideOf.succ (A := A) (B := B) (t := t) (x := x) (y := y))]
    by_cases h2 : SideOf A B t x y
    · rw [dec_yes h2, dec_yes (.inr h2)]
    · rw [dec_no h2, dec_no (by rintro (h3 | h3); exact h h3; exact h2 h3)]

/-- what the closure keeps: its flag in block fb, its map's variable in block mb, the map in block M -/
structure VJ (fb mb M : Nat) (A B : List Int) (t : Nat) (P : Nat → Prop) (w : World) : Prop where
  foot : ∀ b, P b ↔ b = fb ∨ b = mb ∨ b = M
  flag : OwnC w fb #[.bool (dec (Once A B t))] 4
  var : OwnC w mb #[.map (some M)] 125
  map : OMap w M t (seenF A B t)
  apart : fb ≠ mb ∧ fb ≠ M ∧ mb ≠ M

theorem VJ.keeps (fb mb M : Nat) (A B : List Int) : Keeps (VJ fb mb M A B) where
  stable := fun {t P w w'} h hb _ =>
    ⟨h.foot, (hb fb ((h.foot fb).2 (.inl rfl))).trans h.flag, (hb mb ((h.foot mb).2 (.inr (.inl rfl)))).trans h.var, h.map.of_block (hb M ((h.foot M).2 (.inr (.inr rfl)))), h.apart⟩
  low := fun {t P w} h b hb => by
    rcases (h.foot b).1 hb with rfl | rfl | rfl
    · exact h.flag.lt
    · exact h.var.lt
    · exact h.map.lt
theorem zeroB (w : World) : (zeroValue 4).run Try.prog w = .ok (.bool false) w := by kernel_rfl

set_option maxHeartbeats 1000000 in
set_option maxRecDepth 100000 in
theorem valid1 (fb mb M t : Nat) (A B : List Int) (P : Nat → Prop) (j x y : Int) (hx : iAt A t = x) (hy : iAt B t = y) (ix : In64 x) (iy : In64 y) (w : World) (hJ : VJ fb mb M A B t P w) :
    Calls Try.prog 107 #[.int .i64 j, .int .i64 x, .int .i64 y, .pointer (some ⟨fb, 0, none⟩), .pointer (some ⟨mb, 0, none⟩)] w fun e w' => e = .returned (.tuple #[]) ∧ VJ fb mb M A B (t + 1) P w' ∧ Ch P w w' := by
  have HJ := Lib.hid hJ
  have c1 := hJ.flag.cell 0
  have c2 := hJ.var.cell 0
  have f1 := hJ.flag.free 0
  have ha := hJ.apart
  simp at c1 c2
  have HX := Lib.hid hx
  have HY := Lib.hid hy
  clear hJ hx hy
  have fin : ∀ w1, Hid (OMap w1 M (t + 1) (put2 (seenF A B t) x y (.bool true))) → Hid (Grew M (w.setCell ⟨fb, 0, none⟩ (.bool (dec (Once A B (t + 1))))) w1) → VJ fb mb M A B (t + 1) P w1 ∧ Ch P w w1 := by
    intro w1 h1 h2
    have hf := HJ.out.flag
    have hv := HJ.out.var
    have hl1 := hf.lt
    have hl2 := hv.lt
    refine ⟨⟨HJ.out.foot, ?_, ?_, ?_, ha⟩, ?_⟩
    · have : OwnC (w.setCell ⟨fb, 0, none⟩ (.bool (dec (Once A B (t + 1))))) fb #[.bool (dec (Once A B (t + 1)))] 4 := (hf.set 0 _).congr rfl
      exact (h2.out.block fb (by simpa using hl1) (by omega)).trans this
    · exact (h2.out.block mb (by simpa using hl2) (by omega)).trans (hv.other _ _ (by simp; omega))
    · refine h1.out.congr fun a b => ?_
      rw [← HX.out, ← HY.out]
      exact seenF_succ A B t a b
    · exact (Ch.set w _ _ ((HJ.out.foot _).2 (.inl rfl))).trans (Ch.grew h2.out ((HJ.out.foot _).2 (.inr (.inr rfl)))) (fun b hb => .inl hb)
  have FIN := Lib.hid fin
  clear fin
  by_cases ho : Once A B t
  · rw [dec_yes ho] at c1
    have HS : Hid ((seenF A B t x y).getD (.bool false) = .bool (dec (SideOf A B t x y))) := by
      show _ = _
      unfold seenF
      by_cases h : SideOf A B t x y
      · rw [dec_yes h]; rfl
      · rw [dec_no h]; rfl
    have HB : Hid (dec (Once A B (t + 1)) = !dec (SideOf A B t x y)) := by
      show _ = _
      by_cases h : SideOf A B t x y
      · rw [dec_yes h, dec_no (fun q => (once_succ.1 q).2 (by rw [HX.out, HY.out]; exact h))]; rfl
      · rw [dec_no h, dec_yes (once_succ.2 ⟨ho, by rw [HX.out, HY.out]; exact h⟩)]; rfl
    have HO := Lib.hid ho
    clear ho
    go_enter Try.func107, Try.ntmps107
    go_wp2_with (first | (at_lookup; refine wpList_look _ rfl _ _ _ _ rfl 4 Try.underlying125 _ (zeroB _) M t _ rfl HJ.out.map x y rfl ix iy ?_; simp only [HS.out, Bool.false_eq_true, if_false]) | (at_mapUpdate; refine wpList_store _ rfl _ _ _ _ rfl 4 Try.underlying125 M t _ rfl (HJ.out.map.of_block (Below.heap_setCell _ _ _ _ (by simp; omega))) x y rfl ix iy ?_; intro w1 hm1 hg1))
    go_end0
    rw [← HB.out] at hg1
    exact ⟨rfl, FIN.out w1 hm1 hg1⟩
  · rw [dec_no ho] at c1
    have HB := Lib.hid (dec_no (p := Once A B (t + 1)) fun q => ho (once_succ.1 q).1)
    clear ho
    go_enter Try.func107, Try.ntmps107
    go_wp2_with ((at_mapUpdate; refine wpList_store _ rfl _ _ _ _ rfl 4 Try.underlying125 M t _ rfl (HJ.out.map.of_block (Below.heap_setCell _ _ _ _ (by simp; omega))) x y rfl ix iy ?_; intro w1 hm1 hg1))
    go_end0
    rw [← HB.out] at hg1
    exact ⟨rfl, FIN.out w1 hm1 hg1⟩
end Go.Proofs.Ytbmahankleijkaa

/- impl's taker, whether all is there or not. -/
import Derived.Test.YtjapidajammkbaaOTk
namespace Go.Proofs.Ytjapidajammkbaa
open Go.RowKit Go.Fl

theorem takeA (t : Nat) (s : ByteArray) (a n : Nat) (sh : Bool) (hs : s.size ≤ 1048576) (ha : a ≤ s.size) (hn : n ≤ 255) (w : World) (h : TkAt 75 w t s a sh) :
    Calls Try.prog 35 #[.pointer (some ⟨t, 0, none⟩), .int .i64 n] w fun e w' => ∃ a' sh' x, e = .returned (.string x) ∧ TkAt 75 w' t s a' sh' ∧ Grew t w w' ∧ a' ≤ s.size ∧ x.size = n ∧
      (sh' = false → sh = false ∧ a' = a + n ∧ x = s.extract a (a + n)) ∧ (sh' = true → sh = true ∨ s.size < a + n) := by
  by_cases hf : a + n ≤ s.size
  · refine (takeYes t s a n sh hs hf w h).mono ?_
    rintro e w' ⟨rfl, h1, h2⟩
    exact ⟨_, _, _, rfl, h1, h2, hf, by rw [ByteArray.size_extract]; omega, fun e => ⟨e, rfl, rfl⟩, fun e => .inl e⟩
  · refine (takeNo t s a n sh hs ha hn (by omega) w h).mono ?_
    rintro e w' ⟨rfl, h1, h2⟩
    exact ⟨_, _, _, rfl, h1, h2, ha, (by show (List.replicate n (0 : UInt8)).toArray.size = n; simp), (fun e => by cases e), fun _ => .inr (by omega)⟩
theorem num1 (t : Nat) (s : ByteArray) (a : Nat) (sh : Bool) (hs : s.size ≤ 1048576) (ha : a ≤ s.size) (w : World) (h : TkAt 75 w t s a sh) :
    Calls Try.prog 36 #[.pointer (some ⟨t, 0, none⟩), .int .i64 1] w fun e w' => ∃ (a' : Nat) (sh' : Bool) (x : Nat), e = .returned (.int .i64 (x : Nat)) ∧ TkAt 75 w' t s a' sh' ∧ Grew t w w' ∧ a' ≤ s.size ∧ x ≤ 255 ∧
      (sh' = false → sh = false ∧ a' = a + 1 ∧ a + 1 ≤ s.size ∧ x = bN s a) ∧ (sh' = true → sh = true ∨ s.size < a + 1) := by
  by_cases hf : a + 1 ≤ s.size
  · refine (numYes t s a 1 sh hs (by decide) hf w h).mono ?_
    rintro e w' ⟨rfl, h1, h2⟩
    exact ⟨_, _, _, rfl, h1, h2, hf, by rw [numN_1]; exact bN_le _ _, fun e => ⟨e, rfl, hf, numN_1 s a⟩, fun e => .inl e⟩
  · refine (numNo t s a 1 sh hs ha (by decide) (by omega) w h).mono ?_
    rintro e w' ⟨rfl, h1, h2⟩
    exact ⟨_, _, 0, rfl, h1, h2, ha, by omega, (fun e => by cases e), fun _ => .inr (by omega)⟩
theorem partA (t : Nat) (s : ByteArray) (a : Nat) (sh : Bool) (hs : s.size ≤ 1048576) (ha : a ≤ s.size) (w : World) (h : TkAt 75 w t s a sh) :
    Calls Try.prog 37 #[.pointer (some ⟨t, 0, none⟩)] w fun e w' => ∃ (a' : Nat) (sh' : Bool) (x : Nat), e = .returned (.float .f32 x) ∧ TkAt 75 w' t s a' sh' ∧ Grew t w w' ∧ a' ≤ s.size ∧
      (sh' = false → sh = false ∧ a' = a + 4 ∧ x = w32 s a) ∧ (sh' = true → sh = true ∨ s.size < a + 4) := by
  by_cases hf : a + 4 ≤ s.size
  · refine (partYes t s a sh hs hf w h).mono ?_
    rintro e w' ⟨rfl, h1, h2⟩
    exact ⟨_, _, _, rfl, h1, h2, hf, fun e => ⟨e, rfl, rfl⟩, fun e => .inl e⟩
  · refine (partNo t s a sh hs ha (by omega) w h).mono ?_
    rintro e w' ⟨rfl, h1, h2⟩
    exact ⟨_, _, 0, rfl, h1, h2, ha, (fun e => by cases e), fun _ => .inr (by omega)⟩
end Go.Proofs.Ytjapidajammkbaa

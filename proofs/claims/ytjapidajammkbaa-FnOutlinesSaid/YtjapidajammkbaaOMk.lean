/- Marks on outlines, and whether they are held, by the law's own functions. -/
import Derived.Test.YtjapidajammkbaaOCx
import Derived.Test.YtjapidajammkbaaOTaken
namespace Go.Fl
open Go.RowKit

/-- from w to w' only cells of blocks in S turned -/
structure Only (S : Nat → Prop) (w w' : World) : Prop where
  os : w'.os = w.os
  tape : w'.tape = w.tape
  output : w'.output = w.output
  size : w'.heap.size = w.heap.size
  block : ∀ c, ¬ S c → w'.heap[c]? = w.heap[c]?
  room : ∀ c n, Room w c n → Room w' c n
theorem Only.refl (S : Nat → Prop) (w : World) : Only S w w := ⟨rfl, rfl, rfl, rfl, fun _ _ => rfl, fun _ _ h => h⟩
theorem Only.trans {S : Nat → Prop} {a b c : World} (h : Only S a b) (k : Only S b c) : Only S a c :=
  ⟨k.os.trans h.os, k.tape.trans h.tape, k.output.trans h.output, k.size.trans h.size, fun i hi => (k.block i hi).trans (h.block i hi), fun i n hr => k.room i n (h.room i n hr)⟩
theorem Only.mono {S S' : Nat → Prop} {w w' : World} (h : Only S w w') (hs : ∀ c, S c → S' c) : Only S' w w' :=
  ⟨h.os, h.tape, h.output, h.size, fun c hc => h.block c (fun q => hc (hs c q)), h.room⟩
theorem Only.set {S : Nat → Prop} {a w : World} (h : Only S a w) (b i : Nat) (v : Value) (hb : S b) : Only S a (w.setCell ⟨b, i, none⟩ v) :=
  h.trans ⟨rfl, rfl, rfl, by simp, fun c hc => RowKit.Below.heap_setCell _ _ _ _ (fun e => hc (e ▸ hb)), fun c n hr => hr.set _ _ _⟩
theorem Only.drewN {S : Nat → Prop} {a w : World} (h : Only S a w) (n : Nat) : Only S a (w.drewN n) := ⟨h.os, h.tape, h.output, h.size, h.block, h.room⟩
theorem Only.far {S : Nat → Prop} {w w' : World} (h : Only S w w') {lo hi : Nat} (hs : ∀ c, S c → c < lo ∨ hi ≤ c) : Far lo hi w w' := fun c h1 h2 => h.block c (fun q => by have := hs c q; omega)
theorem Only.below {S : Nat → Prop} {w w' : World} (h : Only S w w') {B : Nat} (hs : ∀ c, S c → B ≤ c) : RowKit.Below B w w' :=
  ⟨h.os, h.tape, h.output, Nat.le_of_eq h.size.symm, fun c hc => h.block c (fun q => by have := hs c q; omega)⟩
theorem Only.cell {S : Nat → Prop} {w w' : World} (h : Only S w w') {b o : Nat} (hb : ¬ S b) : w'.cell? ⟨b, o, none⟩ = w.cell? ⟨b, o, none⟩ := World.cell?_of_block (w := w) (a := ⟨b, o, none⟩) (h.block b hb)

/-- from w to w' only blocks from lo up to hi turned, and new ones came -/
structure Kept (lo hi : Nat) (w w' : World) : Prop where
  os : w'.os = w.os
  tape : w'.tape = w.tape
  output : w'.output = w.output
  size : w.heap.size ≤ w'.heap.size
  block : ∀ c, c < w.heap.size → ¬ (lo ≤ c ∧ c < hi) → w'.heap[c]? = w.heap[c]?
  room : ∀ c n, c < w.heap.size → Room w c n → Room w' c n
theorem Room.same {w w' : World} {c n : Nat} (h : w'.heap[c]? = w.heap[c]?) (hr : Room w c n) : Room w' c n := hr.far (lo := c) (hi := c + 1) (fun _ h1 h2 => (Nat.le_antisymm (Nat.lt_succ_iff.1 h2) h1) ▸ h) (Nat.le_refl _) (Nat.lt_succ_self _)
theorem Kept.of_below {w w' : World} (h : RowKit.Below w.heap.size w w') (lo hi : Nat) : Kept lo hi w w' := ⟨h.os, h.tape, h.output, h.size, fun c hc _ => h.block c hc, fun c _ hc hr => Room.same (h.block c hc) hr⟩
theorem Kept.trans {lo hi : Nat} {a b c : World} (h : Kept lo hi a b) (k : Kept lo hi b c) : Kept lo hi a c :=
  ⟨k.os.trans h.os, k.tape.trans h.tape, k.output.trans h.output, Nat.le_trans h.size k.size, fun i h1 h2 => (k.block i (Nat.lt_of_lt_of_le h1 h.size) h2).trans (h.block i h1 h2), fun i n h1 hr => k.room i n (Nat.lt_of_lt_of_le h1 h.size) (h.room i n h1 hr)⟩
theorem Only.kept {S : Nat → Prop} {w w' : World} (h : Only S w w') {lo hi : Nat} (hs : ∀ c, S c → lo ≤ c ∧ c < hi) : Kept lo hi w w' :=
  ⟨h.os, h.tape, h.output, Nat.le_of_eq h.size.symm, fun c _ hc => h.block c fun q => hc (hs c q), fun c n _ hr => h.room c n hr⟩
theorem Kept.mono {lo hi lo' hi' : Nat} {w w' : World} (h : Kept lo hi w w') (h1 : lo' ≤ lo) (h2 : hi ≤ hi') : Kept lo' hi' w w' := ⟨h.os, h.tape, h.output, h.size, fun c hc hn => h.block c hc (by omega), h.room⟩
theorem Kept.far {lo hi a b : Nat} {w w' : World} (h : Kept lo hi w w') (hb : b ≤ w.heap.size) (hd : b ≤ lo ∨ hi ≤ a) : Far a b w w' := fun c h1 h2 => h.block c (by omega) (by omega)
theorem Kept.below {lo hi B : Nat} {w w' : World} (h : Kept lo hi w w') (hb : B ≤ w.heap.size) (hd : B ≤ lo) : RowKit.Below B w w' :=
  ⟨h.os, h.tape, h.output, h.size, fun c hc => h.block c (by omega) (by omega)⟩

/-- n marks from k on -/
def mL (k n : Nat) : List Cx := (List.range n).map fun i => (mX (k + i), one32)
theorem mL_len (k n : Nat) : (mL k n).length = n := by simp [mL]
theorem mL_at {k n i : Nat} (h : i < n) : cAt (mL k n) i = (mX (k + i), one32) := by simp [mL, cAt, h]
/-- how many numbers the first j loops have -/
def sumL (ls : List (List Cx)) : Nat → Nat
  | 0 => 0
  | j + 1 => sumL ls j + (lpAt ls j).length
/-- the marks of loops -/
def mLs (k : Nat) (ls : List (List Cx)) : List (List Cx) := (List.range ls.length).map fun i => mL (k + sumL ls i) (lpAt ls i).length
theorem mLs_len (k : Nat) (ls : List (List Cx)) : (mLs k ls).length = ls.length := by simp [mLs]
theorem mLs_at {k i : Nat} {ls : List (List Cx)} (h : i < ls.length) : lpAt (mLs k ls) i = mL (k + sumL ls i) (lpAt ls i).length := by simp [mLs, lpAt, h]
theorem sumL_mono (ls : List (List Cx)) {i j : Nat} (h : i ≤ j) : sumL ls i ≤ sumL ls j := by
  induction j with
  | zero => have : i = 0 := by omega
            subst this; exact Nat.le_refl _
  | succ j ih =>
    rcases Nat.lt_or_ge i (j + 1) with h1 | h1
    · exact Nat.le_trans (ih (by omega)) (Nat.le_add_right _ _)
    · have : i = j + 1 := by omega
      subst this; exact Nat.le_refl _
end Go.Fl
namespace Go.Proofs.Ytjapidajammkbaa
open Go.RowKit Go.Fl

theorem hdrs_at {ls : List (List Cx)} {g c : Nat → Nat} {n i : Nat} (h : i < n) : (hdrs ls g c n)[i]? = some (.slice (some ⟨g i, 0, none⟩) (lpAt ls i).length (c i)) := by simp [hdrs, h]

end Go.Proofs.Ytjapidajammkbaa

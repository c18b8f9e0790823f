/- What the walks over outlines share: worlds that turn little, loops of a call. (Pulled out of other templates.) -/
import Derived.Test.YtkbikfifnaihlaaOMem
import Derived.Test.YtkbikfifnaihlaaOCx
import Derived.Deep.RegionLaw
import Derived.Deep.RegionHeld3
import Derived.Deep.Cut
import Derived.Deep.CutRange
import Derived.StillTailTactics
import Derived.BigQuiet
import Derived.OwnWalk
namespace Go.Fl
open Go.RowKit
/-- from w to w' only cells of blocks in S turned -/
structure Only (S : Nat → Prop) (w w' : World) : Prop where
  os : w'.os = w.os
  tape : w'.tape = w.tape
  output : w'.output = w.output
  size : w'.heap.size = w.heap.size
  block : ∀ c, ¬ S c → w'.heap[c]? = w.heap[c]?
  room : ∀ c n, Room w c n → Room w' c n
theorem Only.refl (S : Nat → Prop) (w : World) : Only S w w := ⟨rfl, rfl, rfl, rfl, fun _ _ => rfl, fun _ _ h => h⟩
theorem Only.trans {S : Nat → Prop} {a b c : World} (h : Only S a b) (k : Only S b c) : Only S a c :=
  ⟨k.os.trans h.os, k.tape.trans h.tape, k.output.trans h.output, k.size.trans h.size, fun i hi => (k.block i hi).trans (h.block i hi), fun i n hr => k.room i n (h.room i n hr)⟩
theorem Only.mono {S S' : Nat → Prop} {w w' : World} (h : Only S w w') (hs : ∀ c, S c → S' c) : Only S' w w' :=
  ⟨h.os, h.tape, h.output, h.size, fun c hc => h.block c (fun q => hc (hs c q)), h.room⟩
theorem Only.set {S : Nat → Prop} {a w : World} (h : Only S a w) (b i : Nat) (v : Value) (hb : S b) : Only S a (w.setCell ⟨b, i, none⟩ v) :=
  h.trans ⟨rfl, rfl, rfl, by simp, fun c hc => RowKit.Below.heap_setCell _ _ _ _ (fun e => hc (e ▸ hb)), fun c n hr => hr.set _ _ _⟩
theorem Only.drewN {S : Nat → Prop} {a w : World} (h : Only S a w) (n : Nat) : Only S a (w.drewN n) := ⟨h.os, h.tape, h.output, h.size, h.block, h.room⟩
theorem Only.far {S : Nat → Prop} {w w' : World} (h : Only S w w') {lo hi : Nat} (hs : ∀ c, S c → c < lo ∨ hi ≤ c) : Far lo hi w w' := fun c h1 h2 => h.block c (fun q => by have := hs c q; omega)
theorem Only.below {S : Nat → Prop} {w w' : World} (h : Only S w w') {B : Nat} (hs : ∀ c, S c → B ≤ c) : RowKit.Below B w w' :=
  ⟨h.os, h.tape, h.output, Nat.le_of_eq h.size.symm, fun c hc => h.block c (fun q => by have := hs c q; omega)⟩
theorem Only.cell {S : Nat → Prop} {w w' : World} (h : Only S w w') {b o : Nat} (hb : ¬ S b) : w'.cell? ⟨b, o, none⟩ = w.cell? ⟨b, o, none⟩ := World.cell?_of_block (w := w) (a := ⟨b, o, none⟩) (h.block b hb)
/-- from w to w' only blocks from lo up to hi turned, and new ones came -/
structure Kept (lo hi : Nat) (w w' : World) : Prop where
  os : w'.os = w.os
  tape : w'.tape = w.tape
  output : w'.output = w.output
  size : w.heap.size ≤ w'.heap.size
  block : ∀ c, c < w.heap.size → ¬ (lo ≤ c ∧ c < hi) → w'.heap[c]? = w.heap[c]?
  room : ∀ c n, c < w.heap.size → Room w c n → Room w' c n
theorem Room.same {w w' : World} {c n : Nat} (h : w'.heap[c]? = w.heap[c]?) (hr : Room w c n) : Room w' c n := hr.far (lo := c) (hi := c + 1) (fun _ h1 h2 => (Nat.le_antisymm (Nat.lt_succ_iff.1 h2) h1) ▸ h) (Nat.le_refl _) (Nat.lt_succ_self _)
theorem Kept.of_below {w w' : World} (h : RowKit.Below w.heap.size w w') (lo hi : Nat) : Kept lo hi w w' := ⟨h.os, h.tape, h.output, h.size, fun c hc _ => h.block c hc, fun c _ hc hr => Room.same (h.block c hc) hr⟩
theorem Kept.trans {lo hi : Nat} {a b c : World} (h : Kept lo hi a b) (k : Kept lo hi b c) : Kept lo hi a c :=
  ⟨k.os.trans h.os, k.tape.trans h.tape, k.output.trans h.output, Nat.le_trans h.size k.size, fun i h1 h2 => (k.block i (Nat.lt_of_lt_of_le h1 h.size) h2).trans (h.block i h1 h2), fun i n h1 hr => k.room i n (Nat.lt_of_lt_of_le h1 h.size) (h.room i n h1 hr)⟩
theorem Only.kept {S : Nat → Prop} {w w' : World} (h : Only S w w') {lo hi : Nat} (hs : ∀ c, S c → lo ≤ c ∧ c < hi) : Kept lo hi w w' :=
  ⟨h.os, h.tape, h.output, Nat.le_of_eq h.size.symm, fun c _ hc => h.block c fun q => hc (hs c q), fun c n _ hr => h.room c n hr⟩
theorem Kept.mono {lo hi lo' hi' : Nat} {w w' : World} (h : Kept lo hi w w') (h1 : lo' ≤ lo) (h2 : hi ≤ hi') : Kept lo' hi' w w' := ⟨h.os, h.tape, h.output, h.size, fun c hc hn => h.block c hc (by omega), h.room⟩
theorem Kept.far {lo hi a b : Nat} {w w' : World} (h : Kept lo hi w w') (hb : b ≤ w.heap.size) (hd : b ≤ lo ∨ hi ≤ a) : Far a b w w' := fun c h1 h2 => h.block c (by omega) (by omega)
theorem Kept.below {lo hi B : Nat} {w w' : World} (h : Kept lo hi w w') (hb : B ≤ w.heap.size) (hd : B ≤ lo) : RowKit.Below B w w' :=
  ⟨h.os, h.tape, h.output, h.size, fun c hc => h.block c (by omega) (by omega)⟩
theorem own_grew {w w' : World} {t b : Nat} {cs : Array Value} {T : TypeId} (h : OwnC w b cs T) (hg : Grew t w w') (hne : b ≠ t) : OwnC w' b cs T := (hg.block b h.lt hne).trans h
theorem below_grew {B t : Nat} {a w w' : World} (h : Below B a w) (hg : Grew t w w') (ht : B ≤ t) (hB : B ≤ a.heap.size) : Below B a w' := h.trans (hg.below ht (Nat.le_trans hB h.size))
theorem far_grew {w w' : World} {t lo hi : Nat} (hg : Grew t w w') (h1 : t < lo) (h2 : hi ≤ w.heap.size) : Far lo hi w w' := hg.far h2 (.inr h1)
theorem OwnC1.slC {w : World} {g lo hi : Nat} {l : List Cx} (h : OwnC1 w g l) (h1 : lo ≤ g) (h2 : g < hi) : SlC w lo hi (some ⟨g, 0, none⟩) l := fun _ => ⟨g, rfl, h1, h2, h.2⟩
theorem LsAt.slL {w : World} {T : TypeId} {base top cap : Nat} {ao : Option Addr} {ls : List (List Cx)} (h : LsAt w T base top ao cap ls) : SlL w base top ao ls := fun hp => by
  rcases h with ⟨rfl, _⟩ | ⟨b, g, c, rfl, h1, h2, h3, h4⟩
  · exact absurd hp (Nat.lt_irrefl 0)
  · refine ⟨b, rfl, h1, h2, fun i hi => ?_⟩
    obtain ⟨a1, a2, a3, a4, a5⟩ := h4 i hi
    refine ⟨some ⟨g i, 0, none⟩, c i, ?_, a4.slC a1 a2⟩
    rw [h3.cell i (by omega)]
    simp [hdrs, hi]
theorem LsAt.low {w : World} {T : TypeId} {base base' top cap : Nat} {ao : Option Addr} {ls : List (List Cx)} (h : LsAt w T base top ao cap ls) (ht : base' ≤ base) : LsAt w T base' top ao cap ls := by
  rcases h with h | ⟨b, g, c, rfl, h1, h2, h3, h4⟩
  · exact .inl h
  · exact .inr ⟨b, g, c, rfl, by omega, h2, h3, fun i hi => by
      obtain ⟨a1, a2, a3, a4, a5⟩ := h4 i hi
      exact ⟨by omega, a2, a3, a4, a5⟩⟩
/-- a result block of two cells, both set -/
theorem res_two {w : World} {b : Nat} {c0 c1 : Value} {T : TypeId} (h : OwnC w b #[c0, c1] T) (u0 u1 : Value) :
    ((w.setCell ⟨b, 0, none⟩ u0).setCell ⟨b, 1, none⟩ u1).cell? ⟨b, 0, none⟩ = some u0 ∧ ((w.setCell ⟨b, 0, none⟩ u0).setCell ⟨b, 1, none⟩ u1).cell? ⟨b, 1, none⟩ = some u1 := by
  have h2 := (h.set 0 u0).set 1 u1
  exact ⟨by rw [h2.cell]; simp, by rw [h2.cell]; simp⟩
/-- the parts have 32 bits -/
def Sm (ls : List (List Cx)) : Prop := ∀ i, i < ls.length → ∀ k, k < (lpAt ls i).length → (cAt (lpAt ls i) k).1 < 4294967296 ∧ (cAt (lpAt ls i) k).2 < 4294967296
abbrev Ol := ByteArray × List (List Cx)
def GoodO (o : Ol) : Prop := okOut o.1 o.2 ∧ Sm o.2
end Go.Fl
namespace Go.Proofs.Ytkbikfifnaihlaa
open Go.RowKit Go.Fl
theorem infoSl : (Try.prog.info? 27).map (fun i => (i.zero, i.size, i.bytes)) = some (some (.slice none 0 0), 1, 24) := by kernel_rfl
theorem infoCx : (Try.prog.info? 24).map (fun i => (i.zero, i.size, i.bytes)) = some (some (.complex .f32 0 0), 1, 8) := by kernel_rfl
end Go.Proofs.Ytkbikfifnaihlaa

/- LoadOutline, of both packages: an outline that is the whole text. -/
import Derived.Test.YtjapidajammkbaaOTaken
namespace Go.Fl
open Go.RowKit
/-- what LoadOutline returns -/
def LoJ (s nm : ByteArray) (ls : List (List Cx)) (ok : Bool) : Prop :=
  ∃ nm' ls' n, RdJ s nm' ls' n ∧ ((n ≠ 0 ∧ n = s.size ∧ nm = nm' ∧ ls = ls' ∧ ok = true) ∨ (¬ (n ≠ 0 ∧ n = s.size) ∧ nm = ⟨#[]⟩ ∧ ls = [] ∧ ok = false))
theorem LoJ.unique {s nm nm' : ByteArray} {ls ls' : List (List Cx)} {ok ok' : Bool} (h : LoJ s nm ls ok) (h' : LoJ s nm' ls' ok') : nm' = nm ∧ ls' = ls ∧ ok' = ok := by
  obtain ⟨a, b, n, hr, hc⟩ := h
  obtain ⟨a', b', n', hr', hc'⟩ := h'
  obtain ⟨rfl, rfl, rfl⟩ := hr.unique hr'
  rcases hc with ⟨q1, q2, rfl, rfl, rfl⟩ | ⟨q1, rfl, rfl, rfl⟩ <;> rcases hc' with ⟨r1, r2, rfl, rfl, rfl⟩ | ⟨r1, rfl, rfl, rfl⟩
  · exact ⟨rfl, rfl, rfl⟩
  · exact absurd ⟨q1, q2⟩ r1
  · exact absurd ⟨r1, r2⟩ q1
  · exact ⟨rfl, rfl, rfl⟩
end Go.Fl
namespace Go.Proofs.Ytjapidajammkbaa
open Go.RowKit Go.Fl

/-- .. and where it lies -/
def RetL (s : ByteArray) (w : World) (e : Ending) (w' : World) : Prop :=
  (∃ ao cap nm ls ok, LoJ s nm ls ok ∧ e = .returned (.tuple #[.agg #[.string nm, .slice ao (List.length ls) cap], .bool ok]) ∧ LsAt w' 44 w.heap.size w'.heap.size ao cap ls) ∧ Below w.heap.size w w'

set_option maxHeartbeats 1000000 in
theorem implLoad (s : ByteArray) (hs : s.size ≤ 1048576) (w : World) : Calls Try.prog 7 #[.string s] w (RetL s w) := by
  have R0 : OwnC (w.alloc (.cells #[.string ⟨#[]⟩, .slice none 0 0] 31)) w.heap.size #[.string ⟨#[]⟩, .slice none 0 0] 31 := OwnC.new rfl
  have HR0 := Lib.hid R0
  have HB0 := Lib.hid (show Below w.heap.size w (w.alloc (.cells #[.string ⟨#[]⟩, .slice none 0 0] 31)) from Below.alloc (Below.refl _ _) (Nat.le_refl _) _)
  clear R0
  go_enter Try.func7, Try.ntmps7
  go_wp2_with fail
  refine (taken s hs _).mono ?_
  rintro e w1 ⟨⟨ao, cap, nm, ls, n, hj, rfl, hl⟩, hb⟩
  have hb' : Below (w.heap.size + 1) (w.alloc (.cells #[.string ⟨#[]⟩, .slice none 0 0] 31)) w1 := by simpa using hb
  have HJ := Lib.hid hj
  have HL := Lib.hid hl
  have HB := Lib.hid (HB0.out.trans (hb'.mono (by omega)))
  have hr := HR0.out.below hb' (Nat.lt_succ_self _)
  have f0 := hr.free 0
  have f1 := hr.free 1
  have r0 := hr.cell 0
  have r1 := hr.cell 1
  simp at r0 r1
  have hz : w.heap.size + 1 ≤ w1.heap.size := by simpa using hb'.size
  have hzl : w.heap.size < w1.heap.size := hz
  have hzn : ¬ (w.heap.size = w1.heap.size) := by omega
  have HR := Lib.hid hr
  clear hj hl hb hb' hr HR0
  by_cases h0 : n = 0
  · subst h0
    go_wp2_with fail
    have v2 := res_two HR.out (.string ⟨#[]⟩) (.slice none 0 0)
    have q0 := v2.1
    have q1 := v2.2
    clear v2
    have p0 := World.cell?_setCell_same w1 ⟨w.heap.size, 0, none⟩ (.string ⟨#[]⟩) r0
    refine bodyPost_ret (v := .tuple #[.agg #[.string ⟨#[]⟩, .slice none 0 0], .bool false]) (by simp [results, Try.results7, go_sem, p0, q0, q1, hzl, hzn]) rfl ⟨⟨none, 0, ⟨#[]⟩, [], false, ⟨_, _, _, HJ.out, .inr ⟨fun h => h.1 rfl, rfl, rfl, rfl⟩⟩, rfl, LsAt.nil _ _ _ _⟩, ?_⟩
    exact ((HB.out.setCell (Nat.le_refl _) _).setCell (Nat.le_refl _) _).alloc (by simp; omega) _
  · have n0 : ((n : Int) == 0) = false := by simp; omega
    by_cases h1 : n = s.size
    · have n1 : ((n : Int) != (s.size : Int)) = false := by simp; omega
      have HE := Lib.hid h1
      clear h1
      go_wp2_with fail
      have v2 := res_two HR.out (.string nm) (.slice ao ls.length cap)
      have q0 := v2.1
      have q1 := v2.2
      clear v2
      have p0 := World.cell?_setCell_same w1 ⟨w.heap.size, 0, none⟩ (.string nm) r0
      refine bodyPost_ret (v := .tuple #[.agg #[.string nm, .slice ao ls.length cap], .bool true]) (by simp [results, Try.results7, go_sem, p0, q0, q1, hzl, hzn]) rfl ⟨⟨ao, cap, nm, ls, true, ⟨_, _, _, HJ.out, .inl ⟨h0, HE.out, rfl, rfl, rfl⟩⟩, rfl, ?_⟩, ?_⟩
      · have f2 := LsAt.far HL.out (((Far.refl (w.alloc (Obj.cells #[Value.string ⟨#[]⟩, Value.slice none 0 0] 31)).heap.size w1.heap.size w1).set ⟨w.heap.size, 0, none⟩ (.string nm) (.inl (by simp))).set ⟨w.heap.size, 1, none⟩ (.slice ao ls.length cap) (.inl (by simp)))
        have f3 := LsAt.far f2 ((Far.refl _ w1.heap.size _).alloc (.cells #[Value.string nm, Value.slice ao ls.length cap] 31) (by simp))
        exact LsAt.mono (LsAt.low f3 (by simp)) (by simp)
      · exact ((HB.out.setCell (Nat.le_refl _) _).setCell (Nat.le_refl _) _).alloc (by simp; omega) _
    · have n1 : ((n : Int) != (s.size : Int)) = true := by simp; omega
      go_wp2_with fail
      have v2 := res_two HR.out (.string ⟨#[]⟩) (.slice none 0 0)
      have q0 := v2.1
      have q1 := v2.2
      clear v2
      have p0 := World.cell?_setCell_same w1 ⟨w.heap.size, 0, none⟩ (.string ⟨#[]⟩) r0
      refine bodyPost_ret (v := .tuple #[.agg #[.string ⟨#[]⟩, .slice none 0 0], .bool false]) (by simp [results, Try.results7, go_sem, p0, q0, q1, hzl, hzn]) rfl ⟨⟨none, 0, ⟨#[]⟩, [], false, ⟨_, _, _, HJ.out, .inr ⟨fun h => h1 h.2, rfl, rfl, rfl⟩⟩, rfl, LsAt.nil _ _ _ _⟩, ?_⟩
      exact ((HB.out.setCell (Nat.le_refl _) _).setCell (Nat.le_refl _) _).alloc (by simp; omega) _
end Go.Proofs.Ytjapidajammkbaa

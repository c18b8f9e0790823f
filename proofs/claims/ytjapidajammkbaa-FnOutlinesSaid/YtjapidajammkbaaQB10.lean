/- spec.B10Outlines: a list of valid outlines. -/
import Derived.Test.YtjapidajammkbaaQOk
import Derived.Test.YtjapidajammkbaaORecW
namespace Go.Fl
open Go.RowKit
theorem OsAt.low {w : World} {T T1 : TypeId} {base base' top b cap : Nat} {os : List Ol} (h : OsAt w T T1 base top b cap os) (ht : base' ≤ base) : OsAt w T T1 base' top b cap os := by
  obtain ⟨h1, h2, a, c, lo, hi, h3, h4⟩ := h
  exact ⟨by omega, h2, a, c, lo, hi, h3, fun i hi' => by
    obtain ⟨q1, q2, q3, q4, q5, q6⟩ := h4 i hi'
    exact ⟨by omega, q2, q3, q4, q5, q6⟩⟩
end Go.Fl
namespace Go.Proofs.Ytjapidajammkbaa
open Go.RowKit Go.Fl

theorem l00From (a : Option Addr) (n c : Nat) (w : World) :
    Calls Try.prog 13 #[.slice a n c] w fun e w' => e = .returned (.pointer (some ⟨w.heap.size, 0, none⟩)) ∧ w' = w.alloc (.cells #[.slice a n c, .int .i64 0, .int .u64 0] 64) := by
  go_enter Try.func13, Try.ntmps13
  go_wp2_with fail
  go_ret
  exact ⟨rfl, rfl⟩

set_option maxHeartbeats 2000000 in
set_option maxRecDepth 100000 in
theorem b10Outlines (a : Option Addr) (n c : Nat) (hn : n ≤ 1048576) (w : World) (h : CodeAt w w.heap.size a n) :
    Calls Try.prog 5 #[.slice a n c] w fun e w' => ∃ b cap os, e = .returned (.slice (some ⟨b, 0, none⟩) (List.length os) cap) ∧ os.length ≤ 4 ∧ (∀ o, o ∈ os → GoodO o) ∧
      OsAt w' 31 44 w.heap.size w'.heap.size b cap os ∧ Below w.heap.size w w' := by
  have hS0 : SrcAt (w.alloc (.cells #[.slice a n c, .int .i64 0, .int .u64 0] 64)) 64 w.heap.size a n c 0 := ⟨0, 0, OwnC.new rfl, Nat.le_refl _, h.far ((Far.refl _ _ _).alloc _ (Nat.le_refl _))⟩
  have HS0 := Lib.hid hS0
  clear hS0 h
  go_enter Try.func5, Try.ntmps5
  go_wp2_with fail
  refine (l00From a n c w).mono ?_
  rintro e w1 ⟨rfl, rfl⟩
  go_wp2_with fail
  refine (pickS w.heap.size a n c 0 5 hn (by omega) (by decide) (by decide) _ (HS0.out.far ((Far.refl _ _ _).alloc _ (by simp)))).mono ?_
  rintro e w2 ⟨⟨N, rfl, hN⟩, hs, ho⟩
  have HS := Lib.hid hs
  have hz2 : w2.heap.size = w.heap.size + 2 := by rw [ho.size]; simp
  have HB2 := Lib.hid (show Below w.heap.size w w2 from (Below.alloc (Below.alloc (Below.refl w.heap.size w) (Nat.le_refl _) _) (by simp) _).trans (ho.below fun c hc => by omega))
  have HOs := Lib.hid (OsAt.far (OsAt.new (w.alloc (.cells #[.slice a n c, .int .i64 0, .int .u64 0] 64)) 31 44 (w.heap.size + 1) (w.heap.size + 2) (by simp) (by simp)) (ho.far fun c hc => by omega))
  clear hs ho HS0
  go_wp2_with fail
  go_loopw [4, 5] (fun o i wr => ∃ (k s b cap : Nat) (os : List Ol), k = os.length ∧ k + s = N ∧ i = .int .i64 (s : Nat) ∧ o = .slice (some ⟨b, 0, none⟩) k cap ∧ Hid (∀ o, o ∈ os → GoodO o) ∧ Hid (OsAt wr 31 44 (w.heap.size + 1) wr.heap.size b cap os) ∧ w.heap.size + 2 ≤ wr.heap.size ∧ Hid (SrcAt wr 64 w.heap.size a n c (1 + 28 * k)) ∧ Hid (Below w.heap.size w wr)) (fun _ i _ => (intOf i).toNat)
  case atStart => exact ⟨0, N, w.heap.size + 1, 0, [], rfl, by omega, rfl, by first | rfl | simp, Lib.hid (fun o ho => by simp at ho), Lib.hid (by rw [hz2]; simpa using HOs.out), by omega, HS, HB2⟩
  case round =>
    obtain ⟨k, s, b, cap, os, hk, hks, rfl, rfl, HG, HO, hz, HS, HW⟩ := hrel
    have HK := Lib.hid hk
    clear hk
    by_cases hs : 0 < s
    · have s0 : (0 : Int) < (s : Int) := by omega
      have hk4 : k ≤ 4 := by omega
      go_wp2_with fail
      refine (drawOk w.heap.size a n c (1 + 28 * k) hn (by omega) _ (by omega) HS.out).mono ?_
      rintro e w1 ⟨⟨nm, ls, ao, co, rfl, hg, hl⟩, hs1, hk1⟩
      have HG1 := Lib.hid hg
      have HL := Lib.hid hl
      have HS1 := Lib.hid hs1
      have HK1 := Lib.hid hk1
      have z1 := hk1.size
      clear hg hl hs1 hk1
      obtain ⟨hb1, hb2, a', c', lo, hi, h3, h4⟩ := HO.out
      have HR := Lib.hid (show ORow w1 31 2 b cap k (oCells os a' c' os.length) from HK.out ▸ h3.far (HK1.out.far (a := w.heap.size + 1) (b := wr.heap.size) (Nat.le_refl _) (.inr (Nat.le_refl _))) hb1 hb2)
      have H4 := Lib.hid h4
      clear h3 h4
      go_wp2_with (at_builtin; refine wpList_app2 rfl _ _ _ rfl 31 (.agg #[.string ⟨#[]⟩, .slice none 0 0]) 2 40 Try.underlying24 infoOl rfl (by decide) w1 #[.string nm, .slice ao ls.length co] 31 rfl (by simp [Value.oneCell']) w1.heap.size b cap k _ rfl rfl rfl HR.out (by omega) (by decide) ?_; intro b6 cap6 w6 hr6 hbb6 hgr6; have HR6 := Lib.hid hr6; have HB6 := Lib.hid hbb6; have HG6 := Lib.hid hgr6; clear hr6 hbb6 hgr6)
      have hlt6 := HR6.out.lt
      have hz6 := HG6.out.size
      refine ⟨⟨k + 1, s - 1, b6, cap6, os ++ [(nm, ls)], by simp [HK.out], by omega, by go_num, rfl, Lib.hid fun o ho => ?_, ?_, by omega, ?_, ?_⟩, by simp [intOf]; omega⟩
      · rcases List.mem_append.1 ho with ho | ho
        · exact HG.out o ho
        · obtain rfl : o = (nm, ls) := by simpa using ho
          exact HG1.out
      · refine Lib.hid (OsAt.push (w0 := w1) (o := (nm, ls)) (a := a') (c := c') (lo := lo) (hi := hi) hb1 hb2 (fun i hi' => ?_) HL.out (Nat.le_refl _) z1 (Nat.le_refl _) (HK.out ▸ HR6.out) HB6.out hlt6 HG6.out)
        obtain ⟨y1, y2, y3, y4, y5, y6⟩ := H4.out i hi'
        exact ⟨y1, y2, y3, y4, y5.far (HK1.out.far y3 (.inr (by omega))), y6⟩
      · exact Lib.hid ((HS1.out.far (HG6.out.far (lo := 0) (hi := w.heap.size + 1) (by omega) (.inl (by omega)))).mono (by omega))
      · have h7 : Below w.heap.size wr w1 := HK1.out.below (by omega) (Nat.le_refl _)
        exact Lib.hid ((HW.out.trans h7).trans (HG6.out.below (by omega) (by omega)))
    · have hs0 : s = 0 := by omega
      subst hs0
      go_wp2_with fail
      go_ret
      have hkl := HK.out
      refine ⟨b, cap, os, by rw [← hkl]; rfl, by omega, HG.out, ?_, HW.out⟩
      exact HO.out.low (by omega)
end Go.Proofs.Ytjapidajammkbaa

/- RecoverOutlines, of both packages. -/
import Derived.Test.YtjapidajammkbaaORecD
namespace Go.Proofs.Ytjapidajammkbaa
open Go.RowKit Go.Fl

/-- a slice's length -/
def slenO : Value → Nat
  | .slice _ n _ => n
  | _ => 0
/-- what both return -/
def RetR (s : ByteArray) (w : World) (e : Ending) (w' : World) : Prop :=
  ∃ b cap, e = .returned (.tuple #[.slice (some ⟨b, 0, none⟩) (recF s 8 0).1.length cap, .int .i64 ((recF s 8 0).2 : Nat), .bool true]) ∧ OsAt w' 31 44 w.heap.size w'.heap.size b cap (recF s 8 0).1 ∧ Below w.heap.size w w'
theorem infoOl : (Try.prog.info? 31).map (fun i => (i.zero, i.size, i.bytes)) = some (some (.agg #[.string ⟨#[]⟩, .slice none 0 0]), 2, 40) := by kernel_rfl

set_option maxHeartbeats 2000000 in
set_option maxRecDepth 100000 in
theorem implRec (s : ByteArray) (hs : s.size ≤ 1048576) (w : World) : Calls Try.prog 11 #[.string s] w (RetR s w) := by
  go_enter Try.func11, Try.ntmps11
  go_wp2_with fail
  go_loopw [5, 6] (fun o p wr => ∃ (n k b cap : Nat) (os : List Ol), k = os.length ∧ p = .int .i64 (n : Nat) ∧ o = .slice (some ⟨b, 0, none⟩) k cap ∧ Hid (RecAt s os n) ∧ Hid (OsAt wr 31 44 w.heap.size wr.heap.size b cap os) ∧ Hid (Below w.heap.size w wr)) (fun o _ _ => 8 - slenO o)
  case atStart => exact ⟨0, 0, w.heap.size, 0, [], rfl, rfl, rfl, Lib.hid (RecAt.zero s), Lib.hid (OsAt.new w _ _ _ _ (Nat.le_refl _) (by simp)), Lib.hid (Below.alloc (Below.refl _ _) (Nat.le_refl _) _)⟩
  case round =>
    obtain ⟨p, k, b, cap, os, hk, rfl, rfl, HA, HO, HW⟩ := hrel
    have hp := HA.out.2.1
    have hk8 := HA.out.1
    rw [← hk] at hk8
    have HK := Lib.hid hk
    clear hk
    by_cases h8 : k < 8
    · have h8' : (k : Int) < 8 := by omega
      have p0 : (0 : Int) ≤ (p : Int) := by omega
      have p1 : (p : Int) ≤ (s.size : Int) := by omega
      have hes : (s.extract p s.size).size ≤ 1048576 := by rw [ByteArray.size_extract]; omega
      go_wp2_with fail
      refine (taken (s.extract p s.size) hes _).mono ?_
      rintro e w1 ⟨⟨ao, co, nm, ls, n, hj, rfl, hl⟩, hb⟩
      have hjl := hj.le
      rw [ByteArray.size_extract] at hjl
      have HJ := Lib.hid hj
      have HL := Lib.hid hl
      have HB := Lib.hid hb
      have zw := HW.out.size
      have z1 := hb.size
      clear hj hl hb hes
      by_cases hn : n = 0
      · subst hn
        go_wp2_with fail
        go_ret3
        obtain ⟨e1, e2⟩ := HA.out.stop HJ.out
        refine ⟨b, cap, by rw [e1, e2, HK.out]; rfl, ?_, ?_⟩
        · rw [e1]
          have f1 := OsAt.far HO.out ((Far.below HB.out (Nat.le_refl _)).alloc (.cells #[.string nm, .slice ao ls.length co] 31) z1)
          exact OsAt.mono f1 (by simp; omega)
        · exact (HW.out.trans (HB.out.mono zw)).alloc (by omega) _
      · have n0 : ((n : Int) == 0) = false := by simp; omega
        have q0 : (0 : Int) ≤ (n : Int) := by omega
        obtain ⟨D, hD⟩ : ∃ x, x = p + n := ⟨_, rfl⟩
        have q1 : (p : Int) + (n : Int) = (D : Int) := by omega
        have q2 : (D : Int) ≤ 1048576 := by omega
        have HD := Lib.hid hD
        clear hD
        obtain ⟨hb1, hb2, a, c, lo, hi, h3, h4⟩ := HO.out
        have HR := Lib.hid (show ORow (w1.alloc (.cells #[.string nm, .slice ao ls.length co] 31)) 31 2 b cap k (oCells os a c os.length) from HK.out ▸ h3.far ((Far.below HB.out (Nat.le_refl _)).alloc (.cells #[.string nm, .slice ao ls.length co] 31) z1) hb1 hb2)
        have H4 := Lib.hid h4
        clear h3 h4
        go_wp2_with (at_builtin; refine wpList_app2 rfl _ _ _ rfl 31 (.agg #[.string ⟨#[]⟩, .slice none 0 0]) 2 40 Try.underlying24 infoOl rfl (by decide) _ #[.string nm, .slice ao ls.length co] 31 rfl (by simp [Value.oneCell']) (w1.heap.size + 1) b cap k _ rfl rfl (by simp) HR.out (by omega) (by decide) ?_; intro b6 cap6 w6 hr6 hbb6 hgr6; have HR6 := Lib.hid hr6; have HB6 := Lib.hid hbb6; have HG6 := Lib.hid hgr6; clear hr6 hbb6 hgr6)
        have hb6 := HB6.out
        simp only [World.size_alloc] at hb6
        have hlt6 := HR6.out.lt
        refine ⟨⟨D, k + 1, b6, cap6, os ++ [(nm, ls)], by simp [HK.out], by go_num, rfl, ?_, ?_, ?_⟩, by simp [slenO]; omega⟩
        · rw [HD.out]
          exact Lib.hid (HA.out.step HJ.out hn (by rw [← HK.out]; exact h8))
        · refine Lib.hid (OsAt.push (w0 := w1.alloc (.cells #[.string nm, .slice ao ls.length co] 31)) (o := (nm, ls)) (a := a) (c := c) (lo := lo) (hi := hi) hb1 hb2 (fun i hi' => ?_) (LsAt.far HL.out ((Far.refl _ _ _).alloc _ (Nat.le_refl _))) (Nat.le_refl _) z1 (by simp) (HK.out ▸ HR6.out) (by simpa using hb6) hlt6 HG6.out)
          obtain ⟨y1, y2, y3, y4, y5, y6⟩ := H4.out i hi'
          exact ⟨y1, y2, y3, y4, y5.far ((Far.below HB.out y3).alloc _ (by omega)), y6⟩
        · exact Lib.hid (((HW.out.trans (HB.out.mono zw)).alloc (by omega) _).trans (HG6.out.below hb1 (by simp; omega)))
    · have hk : k = 8 := by omega
      subst hk
      go_wp2_with fail
      go_ret3
      obtain ⟨e1, e2⟩ := HA.out.full HK.out.symm
      refine ⟨b, cap, by rw [e1, e2, ← HK.out]; rfl, ?_, HW.out⟩
      rw [e1]
      exact HO.out
end Go.Proofs.Ytjapidajammkbaa

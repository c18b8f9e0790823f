/- impl.IsName, ValidOutline. -/
import Derived.Test.YtgghhnglnklmbaaOVi
namespace Go.Proofs.Ytgghhnglnklmbaa
open Go.RowKit Go.Fl

set_option maxHeartbeats 1000000 in
theorem isName (s : ByteArray) (hs : s.size ≤ 1048576) (w : World) :
    Calls Try.prog 28 #[.string s] w fun e w' => e = .returned (.bool (decide (okName s))) ∧ w' = w := by
  go_enter Try.func28, Try.ntmps28
  go_wp2_with fail
  go_loop [3, 6] (fun _ i => ∃ k : Nat, k ≤ s.size ∧ i = .int .i64 k ∧ Hid (lowS s k)) (fun _ i => s.size - (intOf i).toNat)
  case atStart => exact ⟨0, by omega, rfl, fun i h => absurd h (Nat.not_lt_zero _)⟩
  case round =>
    obtain ⟨k, hk, rfl, HL⟩ := hrel
    by_cases hlt : k < s.size
    · have k0 : (0 : Int) ≤ (k : Int) := by omega
      have k1 : (k : Int) < (s.size : Int) := by omega
      have hb := bN_lt hlt
      by_cases h1 : bN s k < 97
      · have h1' : ((s[k].toNat : Nat) : Int) < 97 := by omega
        have hno : decide (okName s) = false := decide_eq_false (fun h => by have := h.1 k hlt; omega)
        clear hb h1
        go_wp2_with fail
        go_ret
        exact ⟨rfl, rfl⟩
      · by_cases h2 : 122 < bN s k
        · have h1' : ¬ ((s[k].toNat : Nat) : Int) < 97 := by omega
          have h2' : 122 < ((s[k].toNat : Nat) : Int) := by omega
          have hno : decide (okName s) = false := decide_eq_false (fun h => by have := h.1 k hlt; omega)
          clear hb h1 h2
          go_wp2_with fail
          go_ret
          exact ⟨rfl, rfl⟩
        · have h1' : ¬ ((s[k].toNat : Nat) : Int) < 97 := by omega
          have h2' : ¬ 122 < ((s[k].toNat : Nat) : Int) := by omega
          have HL2 := Lib.hid (HL.out.succ ⟨by omega, by omega⟩)
          clear hb h1 h2
          go_wp2_with fail
          exact ⟨⟨k + 1, by omega, by go_num, HL2⟩, by simp [intOf]; omega⟩
    · have hkk : k = s.size := by omega
      subst hkk
      by_cases h1 : 1 ≤ s.size
      · have h1' : (1 : Int) ≤ (s.size : Int) := by omega
        by_cases h2 : s.size ≤ 8
        · have h2' : (s.size : Int) ≤ 8 := by omega
          have hy : decide (okName s) = true := decide_eq_true ⟨HL.out, h1, h2⟩
          go_wp2_with fail
          go_ret
          exact ⟨rfl, rfl⟩
        · have h2' : ¬ (s.size : Int) ≤ 8 := by omega
          have hno : decide (okName s) = false := decide_eq_false (fun h => h2 h.2.2)
          go_wp2_with fail
          go_ret
          exact ⟨rfl, rfl⟩
      · have h1' : ¬ (1 : Int) ≤ (s.size : Int) := by omega
        have hno : decide (okName s) = false := decide_eq_false (fun h => h1 h.2.1)
        go_wp2_with fail
        go_ret
        exact ⟨rfl, rfl⟩

set_option maxHeartbeats 1000000 in
theorem validOutline (lo hi : Nat) (ao : Option Addr) (c : Nat) (nm : ByteArray) (ls : List (List Cx)) (hnm : nm.size ≤ 1048576) (hn : ls.length ≤ 1048576) (hsh : ∀ i, i < ls.length → (lpAt ls i).length ≤ 1048576) (w : World) (hs : SlL w lo hi ao ls) (hh : hi ≤ w.heap.size) :
    Calls Try.prog 12 #[.agg #[.string nm, .slice ao ls.length c]] w fun e w' => e = .returned (.bool (decide (okOut nm ls))) ∧ Below w.heap.size w w' := by
  have HS := Lib.hid (hs.far ((Far.refl _ _ _).alloc (.cells #[.string nm, .slice ao ls.length c] 26) hh))
  have HSH := Lib.hid hsh
  clear hs hsh
  go_enter Try.func12, Try.ntmps12
  by_cases h1 : okName nm
  · have e1 : decide (okName nm) = true := decide_eq_true h1
    have H1 := Lib.hid h1
    clear h1
    by_cases h2 : 1 ≤ ls.length
    · have h2' : (1 : Int) ≤ (ls.length : Int) := by omega
      by_cases h3 : ls.length ≤ 4
      · have h3' : (ls.length : Int) ≤ 4 := by omega
        have hy : decide (okOut nm ls) = ls.all okLoop := by
          cases h : ls.all okLoop
          · exact decide_eq_false (fun q => by rw [q.2.2.2] at h; cases h)
          · exact decide_eq_true ⟨H1.out, h2, h3, h⟩
        have HY := Lib.hid hy
        clear hy
        go_wp2_with (first | (go_at_call 28; refine (isName _ hnm _).mono ?_; rintro e w' ⟨rfl, hw⟩; rw [hw, e1]) | (go_at_call 29; refine (containsL lo hi ao c ls hn HSH.out _ HS.out).mono ?_; rintro e w' ⟨rfl, n, rfl⟩))
        go_ret
        exact ⟨ret_bool HY.out.symm, by (repeat (first | exact Below.refl _ _ | assumption | refine below_dr ?_ _ | refine Below.alloc ?_ (by first | omega | (simp; done) | (simp; omega)) _ | refine Below.setCell ?_ (by first | omega | (simp; done) | (simp; omega)) _ | refine Below.trans ?_ (Below.mono (by assumption) (by first | omega | (simp; done) | (simp; omega)))))⟩
      · have h3' : ¬ (ls.length : Int) ≤ 4 := by omega
        have HNO := Lib.hid (show decide (okOut nm ls) = false from decide_eq_false (fun h => h3 h.2.2.1))
        go_wp2_with (go_at_call 28; refine (isName _ hnm _).mono ?_; rintro e w' ⟨rfl, hw⟩; rw [hw, e1])
        go_ret
        exact ⟨ret_bool HNO.out.symm, by (repeat (first | exact Below.refl _ _ | assumption | refine below_dr ?_ _ | refine Below.alloc ?_ (by first | omega | (simp; done) | (simp; omega)) _ | refine Below.setCell ?_ (by first | omega | (simp; done) | (simp; omega)) _ | refine Below.trans ?_ (Below.mono (by assumption) (by first | omega | (simp; done) | (simp; omega)))))⟩
    · have h2' : ¬ (1 : Int) ≤ (ls.length : Int) := by omega
      have HNO := Lib.hid (show decide (okOut nm ls) = false from decide_eq_false (fun h => h2 h.2.1))
      go_wp2_with (go_at_call 28; refine (isName _ hnm _).mono ?_; rintro e w' ⟨rfl, hw⟩; rw [hw, e1])
      go_ret
      exact ⟨ret_bool HNO.out.symm, by (repeat (first | exact Below.refl _ _ | assumption | refine below_dr ?_ _ | refine Below.alloc ?_ (by first | omega | (simp; done) | (simp; omega)) _ | refine Below.setCell ?_ (by first | omega | (simp; done) | (simp; omega)) _ | refine Below.trans ?_ (Below.mono (by assumption) (by first | omega | (simp; done) | (simp; omega)))))⟩
  · have e1 : decide (okName nm) = false := decide_eq_false h1
    have HNO := Lib.hid (show decide (okOut nm ls) = false from decide_eq_false (fun h => h1 h.1))
    clear h1
    go_wp2_with (go_at_call 28; refine (isName _ hnm _).mono ?_; rintro e w' ⟨rfl, hw⟩; rw [hw, e1])
    go_ret
    exact ⟨ret_bool HNO.out.symm, by (repeat (first | exact Below.refl _ _ | assumption | refine below_dr ?_ _ | refine Below.alloc ?_ (by first | omega | (simp; done) | (simp; omega)) _ | refine Below.setCell ?_ (by first | omega | (simp; done) | (simp; omega)) _ | refine Below.trans ?_ (Below.mono (by assumption) (by first | omega | (simp; done) | (simp; omega)))))⟩
end Go.Proofs.Ytgghhnglnklmbaa

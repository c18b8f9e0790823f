/- impl.within, CheckOf, Decimal. -/
import Derived.Test.YtkkijjgdjaedeaaDoorChk
import Derived.Test.YtkkijjgdjaedeaaDoorShelf
import Derived.Lib.AppendIntMem
namespace Go.Proofs.YtkkijjgdjaedeaaDoor
open Go.RowKit Go.Fl

theorem within65003 (n : Int) (h0 : 0 ≤ n) (h1 : n < 65003) (w : World) :
    Calls Tryd.prog 22 #[.int .i64 n, .int .i64 0, .int .i64 65002] w fun e w' => e = .returned (.bool true) ∧ w' = w := by
  have h2 : n ≤ 65002 := by omega
  go_enter Tryd.func22, Tryd.ntmps22
  go_wp2_with fail
  go_ret
  exact ⟨rfl, rfl⟩

set_option maxHeartbeats 1000000 in
theorem checkOf (n : Int) (h0 : 0 ≤ n) (h1 : n < 65003) (s : ByteArray) (hs : s.size ≤ 140737488355328) (w : World) :
    Calls Tryd.prog 17 #[.int .i64 n, .string s] w fun e w' => e = .returned (.tuple #[.int .i64 (chN n s s.size), .bool true]) ∧ w' = w := by
  go_enter Tryd.func17, Tryd.ntmps17
  go_wp2_with (go_at_call 22; refine (within65003 n h0 h1 _).mono ?_; rintro e w1 ⟨rfl, rfl⟩)
  go_loop [0, 6, 12] (fun c _ i => ∃ k : Nat, k ≤ s.size ∧ i = .int .i64 k ∧ c = .int .i64 (chN n s k)) (fun _ _ i => s.size - (intOf i).toNat)
  case atStart => exact ⟨0, by omega, rfl, rfl⟩
  case round =>
    obtain ⟨k, hk, rfl, rfl⟩ := hrel
    have hr := chN_range n s h0 h1 k
    by_cases hlt : k < s.size
    · have k0 : (0 : Int) ≤ (k : Int) := by omega
      have k1 : (k : Int) < (s.size : Int) := by omega
      have hb := bAt_lt hlt
      have hb2 := bAt_range s k
      rw [hb] at hb2
      have hb3 := s[k].toNat_lt
      go_wp2_with fail
      exact ⟨⟨k + 1, by omega, by go_num, by rw [chN, hb]⟩, by simp [intOf]; omega⟩
    · have hkk : k = s.size := by omega
      subst hkk
      go_wp2_with fail
      go_ret2
      exact ⟨rfl, rfl⟩

/-- the table that the library's decimal digits are read by -/
def Tab (w : World) : Prop := Lib.TabBelow Tryd.prog w.heap.size w "internal/strconv.uint64pow10" .u64 Lib.pow10Tab
theorem Tab.on {w w' : World} (h : Tab w) (hb : Below w.heap.size w w') : Tab w' := fun w2 h2 => h w2 (hb.trans (h2.mono hb.size))
theorem Tab.is {w : World} (h : Tab w) : Lib.TabIs Tryd.prog w "internal/strconv.uint64pow10" .u64 Lib.pow10Tab := h.here

theorem decimal (n : Int) (h0 : -9223372036854775808 ≤ n) (h1 : n ≤ 9223372036854775807) (w : World) (ht : Tab w) :
    Calls Tryd.prog 18 #[.int .i64 n] w fun e w' => e = .returned (.string ⟨(Lib.itoa n).toArray⟩) ∧ Below w.heap.size w w' := by
  have HT := Lib.hid ht
  clear ht
  go_enter Tryd.func18, Tryd.ntmps18
  go_wp2_with (go_at_call 23; refine (Tryd.strconv_FormatInt_10 n h0 h1 _ HT.out.is).mono ?_; rintro e w1 ⟨rfl, k, os, rfl⟩)
  go_ret
  exact ⟨rfl, Lib.below_grow _ _ (Nat.le_refl _) _ _⟩
end Go.Proofs.YtkkijjgdjaedeaaDoor

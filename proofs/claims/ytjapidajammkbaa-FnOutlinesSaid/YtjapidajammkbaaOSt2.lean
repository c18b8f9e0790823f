/- An outline's bytes: the program's bytesOf. -/
import Derived.Test.YtjapidajammkbaaOSto
namespace Go.Fl
open Go.RowKit
def leN (x : Nat) : Nat → List UInt8
  | 0 => []
  | k + 1 => leN x k ++ [UInt8.ofNat (x / 256 ^ k)]
theorem leN_len (x : Nat) : ∀ k, (leN x k).length = k
  | 0 => rfl
  | k + 1 => by simp [leN, leN_len x k]
theorem leN_4 (x : Nat) : leN x 4 = le4 x := by simp [leN, le4]
theorem leN_2 (x : Nat) : leN x 2 = [UInt8.ofNat x, UInt8.ofNat (x / 256)] := by simp [leN]
end Go.Fl
namespace Go.Proofs.Ytjapidajammkbaa
open Go.RowKit Go.Fl

set_option maxHeartbeats 1000000 in
theorem bytesOf (b cap n : Nat) (l : List UInt8) (x c : Nat) (hx : x < 4294967296) (hc : c ≤ 8) (hn : n + c ≤ 1048576) (w : World) (hrow : ORow w 5 1 b cap n (Lib.byteCells l)) (B : Nat) (hB : B ≤ b) (hBw : B ≤ w.heap.size) :
    Calls Try.prog 16 #[.slice (some ⟨b, 0, none⟩) n cap, .int .i64 x, .int .i64 c] w fun e w' => ∃ b' cap', e = .returned (.slice (some ⟨b', 0, none⟩) (n + c) cap') ∧ ORow w' 5 1 b' cap' (n + c) (Lib.byteCells (l ++ leN x c)) ∧ B ≤ b' ∧ Below B w w' := by
  have HR0 := Lib.hid hrow
  clear hrow
  go_enter Try.func16, Try.ntmps16
  go_wp2_with fail
  go_loopw [0, 1, 8] (fun s y i wr => ∃ k b1 cap1 : Nat, k ≤ c ∧ i = .int .i64 k ∧ y = .int .i64 (x / 256 ^ k : Nat) ∧ s = .slice (some ⟨b1, 0, none⟩) (n + k) cap1 ∧ Hid (ORow wr 5 1 b1 cap1 (n + k) (Lib.byteCells (l ++ leN x k))) ∧ B ≤ b1 ∧ Hid (Below B w wr)) (fun _ _ i _ => c - (intOf i).toNat)
  case atStart => exact ⟨0, b, cap, by omega, rfl, by simp, rfl, by rw [leN, List.append_nil]; exact HR0.out, hB, Below.refl _ _⟩
  case round =>
    obtain ⟨k, b1, cap1, hk, rfl, rfl, rfl, HR, hb1, HW⟩ := hrel
    have hz := HW.out.size
    have hle : x / 256 ^ k ≤ x := Nat.div_le_self _ _
    generalize hyy : x / 256 ^ k = y at *
    have HYY := Lib.hid hyy
    clear hyy
    by_cases hlt : k < c
    · have y0 : (0 : Int) ≤ (y : Int) := by omega
      have y1 : (y : Int) ≤ 4294967295 := by omega
      have hrb := HR.out.lt
      go_wp2_with (at_builtin; refine wpList_appB rfl _ _ _ rfl 5 (.int .u8 0) 1 Try.underlying22 infoB rfl (by decide) b1 cap1 _ _ rfl (HR.out.below (Below.alloc (Below.refl _ _) (Nat.le_refl _) _) hrb) wr.heap.size 1 1 [.int .u8 ((y : Int) % 256)] rfl rfl (fun j u h => news_new wr _ _ j u h) (by simp [Value.oneCell']) (by omega) (by omega) B hb1 (by simp; omega) ?_; intro b2 cap2 w2 hr2 hb2 hg2; have HR2 := Lib.hid hr2; have HG2 := Lib.hid hg2; clear hr2 hg2)
      have hp : x / 256 ^ (k + 1) = y / 256 := by rw [Nat.pow_succ, ← Nat.div_div_eq_div_mul, HYY.out]
      have hu : (((UInt8.ofNat y).toNat : Nat) : Int) = (y : Int) % 256 := by rw [UInt8.toNat_ofNat']; omega
      refine ⟨⟨k + 1, b2, cap2, by omega, by go_num, by rw [hp]; go_num, rfl, ?_, hb2, HW.out.trans ((Below.alloc (Below.refl _ _) (by omega) _).trans (HG2.out.below hb1 (by simp; omega)))⟩, by simp [intOf]; omega⟩
      have := HR2.out
      rw [leN, HYY.out, ← List.append_assoc, Lib.byteCells_append (l ++ leN x k)]
      simp only [Lib.byteCells, List.map_cons, List.map_nil, hu]
      exact this
    · have hkk : k = c := by omega
      subst hkk
      go_wp2_with fail
      go_ret
      exact ⟨b1, cap1, rfl, HR.out, hb1, HW.out⟩
end Go.Proofs.Ytjapidajammkbaa

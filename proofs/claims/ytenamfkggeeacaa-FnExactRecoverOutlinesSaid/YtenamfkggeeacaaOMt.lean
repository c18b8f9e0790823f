/- The text that the law marks a name with. -/
import Derived.Test.YtenamfkggeeacaaFl
import Derived.Test.YtenamfkggeeacaaPl
import Derived.Test.YtenamfkggeeacaaMem
import Derived.Test.YtenamfkggeeacaaChecked
import Derived.Lib.ItoaNum
import Derived.Lib.IndexLaws
import Derived.Laws.IdiomStrings
import Derived.Deep.AppendSrc
import Derived.Below
import Derived.Lib.Builder
import Derived.Laws.Concat
import Derived.Deep.RegionHeld3
namespace Go.Fl
open Go.RowKit
/-- the digits put ahead so far, and what is left -/
def DecI (n : Nat) (out : List UInt8) (rest : Nat) : Prop :=
  (out = [] ∧ rest = n) ∨ (out ≠ [] ∧ rest ≤ n ∧ (if rest = 0 then out = Lib.decDigits n else Lib.decDigits rest ++ out = Lib.decDigits n))
theorem DecI.step {n : Nat} {out : List UInt8} {rest : Nat} (h : DecI n out rest) (hr : out = [] ∨ rest ≠ 0) : DecI n (UInt8.ofNat (48 + rest % 10) :: out) (rest / 10) := by
  have hd : Lib.decDigits rest = if rest < 10 then [UInt8.ofNat (48 + rest)] else Lib.decDigits (rest / 10) ++ [UInt8.ofNat (48 + rest % 10)] := by rw [Lib.decDigits]; split <;> rfl
  have h2 : Lib.decDigits rest ++ out = Lib.decDigits n ∧ rest ≤ n := by
    rcases h with ⟨rfl, rfl⟩ | ⟨h1, h2, h3⟩
    · simp
    · rw [if_neg (hr.resolve_left h1)] at h3; exact ⟨h3, h2⟩
  refine .inr ⟨by simp, by omega, ?_⟩
  rw [← h2.1, hd]
  by_cases h9 : rest < 10
  · rw [if_pos (by omega), if_pos h9, show rest % 10 = rest by omega]; rfl
  · rw [if_neg (by omega), if_neg h9]; simp
theorem DecI.done {n : Nat} {out : List UInt8} (h : DecI n out 0) (hr : out ≠ []) : out = Lib.itoa n := by
  rcases h with ⟨h1, _⟩ | ⟨_, _, h3⟩
  · exact absurd h1 hr
  · rw [if_pos rfl] at h3
    rw [h3, Lib.itoa, if_neg (by omega)]; rfl
theorem DecI.len {n : Nat} {out : List UInt8} {rest : Nat} (h : DecI n out rest) : out.length ≤ Lib.nDigits n := by
  rcases h with ⟨rfl, _⟩ | ⟨_, _, h3⟩
  · simp
  · rw [← Lib.decDigits_length]
    split at h3
    · rw [h3]; exact Nat.le_refl _
    · rw [← h3]; simp
theorem nDigits_le_self : ∀ u : Nat, Lib.nDigits u ≤ u + 1 := fun u => by
  induction u using Nat.strongRecOn with
  | _ u ih =>
    by_cases h : u < 10
    · rw [Lib.nDigits_small h]; omega
    · rw [Lib.nDigits_big h]; have := ih (u / 10) (by omega); omega

/-- the mark of a number -/
def mtx (n : Int) : ByteArray := ⟨(109 :: Lib.itoa n).toArray⟩
end Go.Fl
namespace Go.Proofs.Ytenamfkggeeacaa
open Go.RowKit Go.Fl

set_option maxHeartbeats 1000000 in
set_option maxRecDepth 100000 in
theorem markText (n : Nat) (h0 : 1 ≤ n) (h1 : n ≤ 1000000000) (w : World) :
    Calls Try.prog 20 #[.int .i64 n] w fun e w' => e = .returned (.string (mtx n)) ∧ Below w.heap.size w w' := by
  have hn0 : ¬ (n : Int) ≤ 0 := by omega
  have hdl := nDigits_le_self n
  go_enter Try.func20, Try.ntmps20
  go_wp2_with fail
  go_loopw [0, 3] (fun r o wr => ∃ (out : List UInt8) (rest : Nat), DecI n out rest ∧ rest ≤ n ∧ r = .int .i64 rest ∧ o = .string ⟨out.toArray⟩ ∧ Hid (Below w.heap.size w wr)) (fun r _ _ => (intOf r).toNat)
  case atStart => exact ⟨[], n, .inl ⟨rfl, rfl⟩, Nat.le_refl _, rfl, rfl, Below.refl _ _⟩
  case round =>
    obtain ⟨out, rest, hD, hrn, rfl, rfl, HW⟩ := hrel
    have hlen := hD.len
    have hz := HW.out.size
    by_cases hr : rest = 0
    · subst hr
      have hne : out ≠ [] := by
        rintro rfl
        rcases hD with ⟨_, h⟩ | ⟨h, _⟩
        · omega
        · exact h rfl
      have hs : ¬ 1 + out.length > 9223372036854775807 := by omega
      go_wp2_with fail
      go_ret
      refine ⟨?_, HW.out⟩
      rw [mtx, ← hD.done hne]
      exact congrArg (fun x => Ending.returned (Value.string x)) (ByteArray.mk_append_mk [109] out)
    · have r0 : ¬ (rest : Int) ≤ 0 := by omega
      have r1 : (0 : Int) < (rest : Int) := by omega
      have r2 : 0 ≤ (rest : Int) % 10 ∧ (rest : Int) % 10 ≤ 9 := by omega
      have r3 : (rest : Int) ≤ 1000000000 := by omega
      have hs : ¬ 1 + out.length > 9223372036854775807 := by omega
      have hcv : (convert 56 9 (.slice (some ⟨wr.heap.size, 0, none⟩) 1 1)).run Try.prog (wr.alloc (.cells #[.int .u8 (48 + (rest : Int) % 10)] 5)) = .ok (.string ⟨[UInt8.ofNat (48 + rest % 10)].toArray⟩) (wr.alloc (.cells #[.int .u8 (48 + (rest : Int) % 10)] 5)) :=
        run_convert_bytes_back _ _ _ 5 ⟨wr.heap.size, 0, none⟩ 1 [UInt8.ofNat (48 + rest % 10)] Try.underlying56 Try.underlying5 Try.underlying9 (fun j hj => by
          have hj0 : j = 0 := by simpa using hj
          subst hj0
          have : (UInt8.ofNat (48 + rest % 10)).toNat = 48 + rest % 10 := by
            rw [UInt8.toNat_ofNat']; omega
          have hc : (wr.alloc (.cells #[.int .u8 (48 + (rest : Int) % 10)] 5)).cell? ⟨wr.heap.size, 0, none⟩ = some (.int .u8 (48 + (rest : Int) % 10)) := by
            rw [Lib.cell_of_heap (heap_alloc_new wr _)]; rfl
          have ha : (⟨wr.heap.size, 0, none⟩ : Addr).add 0 = ⟨wr.heap.size, 0, none⟩ := rfl
          rw [ha, hc]
          simp only [List.getElem_cons_zero, this]
          congr 2)
      go_wp2_with fail
      refine ⟨⟨UInt8.ofNat (48 + rest % 10) :: out, rest / 10, hD.step (.inr hr), by omega, by go_num, ?_, Below.alloc HW.out hz _⟩, by simp [intOf]; omega⟩
      have hx : (48 : UInt8) + UInt8.ofNat (rest % 10) = UInt8.ofNat (48 + rest % 10) := by rw [UInt8.ofNat_add]; rfl
      rw [hx]
      exact congrArg Value.string (ByteArray.mk_append_mk [UInt8.ofNat (48 + rest % 10)] out)
end Go.Proofs.Ytenamfkggeeacaa

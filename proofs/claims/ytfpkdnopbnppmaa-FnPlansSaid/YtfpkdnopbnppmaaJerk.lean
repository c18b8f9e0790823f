/- Contracts of JerkPlan: the reference's. -/
import Derived.Test.YtfpkdnopbnppmaaPlan
import Derived.Test.YtfpkdnopbnppmaaSqrt
import Derived.Deep.DeepCutAuto
namespace Go.Proofs.Ytfpkdnopbnppmaa
open Go.RowKit Go.Fl

def jkA (r j : Nat) : Nat := fdiv (fmul r r) j
def jkRise (m r j : Nat) : Nat := if fgt (jkA r j) m then fsqrt (fdiv m j) else fdiv r j
def jkHold (m r j : Nat) : Nat := if fgt (jkA r j) m then 0 else fsub (fdiv m r) (fdiv r j)
def jkPeak (j r h : Nat) : Nat := fmul (fmul j r) (fadd r h)
def jkWay (j r h : Nat) : Nat := fmul (jkPeak j r h) (fadd (fmul 1073741824 r) h)
def jkStep (j R H long : Nat) (st : Nat × Nat) : Nat × Nat :=
  if fle (jkWay j (fmul (fmul 1056964608 (fadd st.1 st.2)) R) (fmul (fmul 1056964608 (fadd st.1 st.2)) H)) long then (fmul 1056964608 (fadd st.1 st.2), st.2) else (st.1, fmul 1056964608 (fadd st.1 st.2))
def jkTo (j R H long : Nat) : Nat → Nat × Nat
  | 0 => (0, 1065353216)
  | k + 1 => jkStep j R H long (jkTo j R H long k)
/-- the plan before it is looked at: rise, hold, cruise -/
def jkPlan (long m r j : Nat) : Nat × Nat × Nat :=
  if fle (jkWay j (jkRise m r j) (jkHold m r j)) long then (jkRise m r j, jkHold m r j, fdiv (fsub long (jkWay j (jkRise m r j) (jkHold m r j))) (jkPeak j (jkRise m r j) (jkHold m r j)))
  else (fmul (jkTo j (jkRise m r j) (jkHold m r j) long 30).1 (jkRise m r j), fmul (jkTo j (jkRise m r j) (jkHold m r j) long 30).1 (jkHold m r j), 0)
def jkArgs (long m r j : Nat) : Bool := above long && above m && above r && above j
def jkOk (long m r j : Nat) : Bool := jkArgs long m r j && planOk j (jkPlan long m r j).1 (jkPlan long m r j).2.1 (jkPlan long m r j).2.2

/-- what both functions return -/
def JkRet (long m r j : Nat) (e : Ending) : Prop :=
  ∃ a b c d, e = .returned (.tuple #[agg4 a b c d, .bool (jkOk long m r j)]) ∧
    F32 a (if jkOk long m r j then j else 0) ∧ F32 b (if jkOk long m r j then (jkPlan long m r j).1 else 0) ∧
    F32 c (if jkOk long m r j then (jkPlan long m r j).2.1 else 0) ∧ F32 d (if jkOk long m r j then (jkPlan long m r j).2.2 else 0)

theorem jkArgs_no (long m r j : Nat) (h : jkArgs long m r j = false) : jkOk long m r j = false := by simp [jkOk, h]
theorem jkRet_no (long m r j : Nat) (h : jkOk long m r j = false) : JkRet long m r j (.returned (.tuple #[agg4 0 0 0 0, .bool false])) :=
  ⟨0, 0, 0, 0, by rw [h], by simp [h]; exact F32.zero, by simp [h]; exact F32.zero, by simp [h]; exact F32.zero, by simp [h]; exact F32.zero⟩

theorem jkRet_yes {long m r j a b c : Nat} (h : jkOk long m r (can .f32 j) = true) (hR : F32 a (jkPlan long m r (can .f32 j)).1) (hH : F32 b (jkPlan long m r (can .f32 j)).2.1) (hC : F32 c (jkPlan long m r (can .f32 j)).2.2) :
    JkRet long m r (can .f32 j) (.returned (.tuple #[agg4 j a b c, .bool true])) :=
  ⟨j, a, b, c, by rw [h], by rw [if_pos h]; exact F32.mk j, by rw [if_pos h]; exact hR, by rw [if_pos h]; exact hH, by rw [if_pos h]; exact hC⟩

end Go.Proofs.Ytfpkdnopbnppmaa

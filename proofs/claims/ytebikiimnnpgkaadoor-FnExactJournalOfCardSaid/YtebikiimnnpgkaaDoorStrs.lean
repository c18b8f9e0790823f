/- Contracts: lists of strings: how much they hold, their copy, their equality, by the law's own functions. -/
import Derived.Test.YtebikiimnnpgkaaDoorChecked
import Derived.Test.YtebikiimnnpgkaaDoorMem
import Derived.Test.YtebikiimnnpgkaaDoorRow
import Derived.IntWalk
import Derived.Below
import Derived.Deep.OwnRows
import Derived.Deep.QuietTactic
import Derived.BigQuiet
namespace Go.Fl
def sAt (ps : List ByteArray) (i : Nat) : ByteArray := ps.getD i ⟨#[]⟩
/-- a slice at ao reads as the strings ps; its block lies from lo up to hi -/
def SlT (w : World) (lo hi : Nat) (ao : Option Addr) (ps : List ByteArray) : Prop :=
  0 < ps.length → ∃ b off, ao = some ⟨b, off, none⟩ ∧ lo ≤ b ∧ b < hi ∧ ∀ i, i < ps.length → w.cell? ⟨b, off + i, none⟩ = some (.string (sAt ps i))
theorem SlT.far {w w' : World} {lo hi : Nat} {ao : Option Addr} {ps : List ByteArray} (h : SlT w lo hi ao ps) (hf : Far lo hi w w') : SlT w' lo hi ao ps := fun hp => by
  obtain ⟨b, off, rfl, h1, h2, hc⟩ := h hp
  exact ⟨b, off, rfl, h1, h2, fun i hi => (hf.cell h1 h2).trans (hc i hi)⟩
theorem SlT.mono {w : World} {lo hi lo' hi' : Nat} {ao : Option Addr} {ps : List ByteArray} (h : SlT w lo hi ao ps) (hl : lo' ≤ lo) (hh : hi ≤ hi') : SlT w lo' hi' ao ps := fun hp => by
  obtain ⟨b, off, rfl, h1, h2, hc⟩ := h hp
  exact ⟨b, off, rfl, by omega, by omega, hc⟩
/-- how many letters the first k strings have together -/
def lens (ps : List ByteArray) : Nat → Nat
  | 0 => 0
  | k + 1 => lens ps k + (sAt ps k).size
/-- every string's length fits -/
def Fit (ps : List ByteArray) : Prop := ∀ i, i < ps.length → (sAt ps i).size ≤ 9223372036854775807
theorem rowT {w : World} {b : Nat} {T : TypeId} {n : Nat} {f : Nat → Value} {ps : List ByteArray} (h : w.rowIs b T n f) (hn : n = ps.length) (hf : ∀ i, i < n → f i = .string (sAt ps i)) : SlT w b (b + 1) (some ⟨b, 0, none⟩) ps := by
  subst hn
  refine fun _ => ⟨b, 0, rfl, Nat.le_refl _, Nat.lt_succ_self _, fun i hi => ?_⟩
  rw [Nat.zero_add, h.cell hi, hf i hi]
theorem strStep (f : Nat → ByteArray) (j k : Nat) : (if j = k then Value.string (f k) else .string (if j < k then f j else ⟨#[]⟩)) = .string (if j < k + 1 then f j else ⟨#[]⟩) := by
  by_cases h : j = k
  · subst h; simp
  · rw [if_neg h]
    by_cases h2 : j < k
    · rw [if_pos h2, if_pos (by omega)]
    · rw [if_neg h2, if_neg (by omega)]
end Go.Fl
namespace Go.Proofs.YtebikiimnnpgkaaDoor
open Go.RowKit Go.Fl

set_option maxHeartbeats 1000000 in
theorem szStringS (lo hi : Nat) (ao : Option Addr) (c : Nat) (ps : List ByteArray) (hn : ps.length ≤ 9223372036854775807) (hf : Fit ps) (w : World) (hs : SlT w lo hi ao ps) :
    Calls Tryd.prog 4 #[.slice ao ps.length c, .int .i64 1048576] w fun e w' => ∃ r : Int, e = .returned (.int .i64 r) ∧ -1 ≤ r ∧ r ≤ 1048576 ∧ (0 ≤ r → ps.length + lens ps ps.length ≤ 1048576) ∧ w' = w := by
  have HS := Lib.hid hs
  have HF := Lib.hid hf
  clear hs hf
  go_enter Tryd.func4, Tryd.ntmps4
  by_cases h : (1048576 : Int) < ps.length
  · have h1 : (1048576 : Int) - ps.length < 0 := by omega
    go_wp2_with fail
    go_ret
    exact ⟨-1, rfl, by omega, by omega, by omega, rfl⟩
  have h1 : ¬ (1048576 : Int) - ps.length < 0 := by omega
  go_wp2_with fail
  go_loop [1, 5] (fun l i => ∃ k : Nat, k ≤ ps.length ∧ i = .int .i64 k ∧ l = .int .i64 (1048576 - ps.length - lens ps k) ∧ ps.length + lens ps k ≤ 1048576) (fun _ i => ps.length - (intOf i).toNat)
  case atStart => exact ⟨0, by omega, rfl, by simp [lens], by simp [lens]; omega⟩
  case round =>
    obtain ⟨k, hk, rfl, rfl, hl⟩ := hrel
    by_cases hlt : k < ps.length
    · obtain ⟨b, off, rfl, _, _, hc⟩ := HS.out (by omega)
      have hc1 := hc k hlt
      have hf1 := HF.out k hlt
      clear hc
      have k0 : (0 : Int) ≤ (k : Int) := by omega
      have k1 : (k : Int) < (ps.length : Int) := by omega
      by_cases hneg : ps.length + lens ps k + (sAt ps k).size ≤ 1048576
      · have h2 : ¬ (1048576 : Int) - ps.length - lens ps k - (sAt ps k).size < 0 := by omega
        go_wp2_with fail
        exact ⟨⟨k + 1, by omega, by go_num, by simp [lens]; omega, by simp [lens]; omega⟩, by simp [intOf]; omega⟩
      · have h2 : (1048576 : Int) - ps.length - lens ps k - (sAt ps k).size < 0 := by omega
        go_wp2_with fail
        go_ret
        exact ⟨-1, rfl, by omega, by omega, by omega, rfl⟩
    · have hkk : k = ps.length := by omega
      subst hkk
      go_wp2_with fail
      go_ret
      have hle : (0 : Int) ≤ 1048576 - ps.length - lens ps ps.length := by omega
      refine ⟨1048576 - ps.length - lens ps ps.length, rfl, by omega, by omega, ?_⟩
      first | rfl | exact ⟨fun _ => by omega, rfl⟩

theorem infoStr : (Tryd.prog.info? 9).map (fun i => (i.zero, i.size, i.bytes)) = some (some (.string ⟨#[]⟩), 1, 16) := by kernel_rfl

set_option maxHeartbeats 1000000 in
theorem toStringS (lo hi : Nat) (ao : Option Addr) (c : Nat) (ps : List ByteArray) (hn : ps.length ≤ 1048576) (w : World) (hs : SlT w lo hi ao ps) (hh : hi ≤ w.heap.size) :
    Calls Tryd.prog 6 #[.slice ao ps.length c] w fun e w' => e = .returned (.slice (some ⟨w.heap.size, 0, none⟩) ps.length ps.length) ∧
      SlT w' w.heap.size (w.heap.size + 1) (some ⟨w.heap.size, 0, none⟩) ps ∧ w'.heap.size = w.heap.size + 1 ∧ Below w.heap.size w w' := by
  have HS := Lib.hid hs
  clear hs
  have hmk := run_make_row' (P := Tryd.prog) 22 9 (.string ⟨#[]⟩) 16 Tryd.underlying22 infoStr rfl .i64 .i64 ps.length (by omega) (by omega)
  go_enter Tryd.func6, Tryd.ntmps6
  go_wp2_with fail
  go_loopw [4] (fun i wr => ∃ (k : Nat), k ≤ ps.length ∧ i = .int .i64 k ∧ wr.rowIs w.heap.size 9 ps.length (fun j => .string (if j < k then sAt ps j else ⟨#[]⟩)) ∧ wr.heap.size = w.heap.size + 1 ∧ Below w.heap.size w wr) (fun i _ => ps.length - (intOf i).toNat)
  case atStart => exact ⟨0, by omega, rfl, (World.rowIs_made _ _ _ _).congr (fun i _ => rfl), by simp, by (repeat (first | exact Below.refl _ _ | assumption | refine below_dr ?_ _ | refine Below.alloc ?_ (by first | omega | (simp; done) | (simp; omega)) _ | refine Below.setCell ?_ (by first | omega | (simp; done) | (simp; omega)) _ | refine Below.trans ?_ (Below.mono (by assumption) (by first | omega | (simp; done) | (simp; omega)))))⟩
  case round =>
    obtain ⟨k, hk, rfl, hrow, hsz, hb⟩ := hrel
    clear hmk
    by_cases hlt : k < ps.length
    · obtain ⟨b, off, rfl, hb1, hb2, hc⟩ := (HS.out.far (Far.below hb hh)) (by omega)
      have hc1 := hc k hlt
      have hd1 := hrow.cell hlt
      have hd2 := hrow.frozen k
      clear hc
      go_wp2_with fail
      go_roundw
      case rel => exact ⟨k + 1, by omega, by go_num, (hrow.set k _).congr (fun j _ => strStep (sAt ps) j k), by simpa using hsz, hb.setCell (by simp) _⟩
      case measure => simp [intOf]; omega
    · go_wp2_with fail
      go_ret
      have hkk : k = ps.length := by omega
      subst hkk
      exact ⟨rfl, rowT hrow rfl (fun i hi => by rw [if_pos hi]), hsz, hb⟩

set_option maxHeartbeats 1000000 in
theorem eqStringS (lo hi lo' hi' : Nat) (a b : Option Addr) (ca cb : Nat) (ps : List ByteArray) (hn : ps.length ≤ 1048576) (w : World) (ha : SlT w lo hi a ps) (hb : SlT w lo' hi' b ps) :
    Calls Tryd.prog 8 #[.slice a ps.length ca, .slice b ps.length cb] w fun e w' => e = .returned (.bool true) ∧ ∃ n, w' = w.drewN n := by
  have HA := Lib.hid ha
  have HB := Lib.hid hb
  clear ha hb
  go_enter Tryd.func8, Tryd.ntmps8
  go_wp2_with fail
  go_loopw [5] (fun i wr => ∃ k q : Nat, k ≤ ps.length ∧ i = .int .i64 k ∧ wr = w.drewN q) (fun i _ => ps.length - (intOf i).toNat)
  case atStart => exact ⟨0, 0, by omega, rfl, rfl⟩
  case round =>
    obtain ⟨k, q, hk, rfl, rfl⟩ := hrel
    by_cases hlt : k < ps.length
    · obtain ⟨b1, o1, rfl, _, _, hc1⟩ := HA.out (by omega)
      obtain ⟨b2, o2, rfl, _, _, hc2⟩ := HB.out (by omega)
      have c1 := hc1 k hlt
      have c2 := hc2 k hlt
      clear hc1 hc2
      have k0 : (0 : Int) ≤ (k : Int) := by omega
      have k1 : (k : Int) < (ps.length : Int) := by omega
      go_wp2_with fail
      go_quiet (fail)
      go_wp2_with fail
      go_roundw
      case rel => exact ⟨k + 1, q + nq, by omega, by go_num, by simp only [World.drewN_drewN]⟩
      case measure => simp [intOf]; omega
    · go_wp2_with fail
      go_ret
      exact ⟨rfl, _, rfl⟩
end Go.Proofs.YtebikiimnnpgkaaDoor

/- Contracts: how much a net holds, by the law's own functions. -/
import Derived.Test.YtbmahankleijkaaChecked
import Derived.Test.YtbmahankleijkaaMem
import Derived.IntWalk
namespace Go.Proofs.Ytbmahankleijkaa
open Go.RowKit Go.Fl

/-- what is left of a number behind a list of that length -/
def lessLen (left : Int) (n : Nat) : Int := if left < n then -1 else left - n

theorem lessLen_yes {left : Int} {n : Nat} (h : left < n) : lessLen left n = -1 := if_pos h
theorem lessLen_no {left : Int} {n : Nat} (h : ¬ left < n) : lessLen left n = left - n := if_neg h

theorem szInt64S (ao : Option Addr) (n c : Nat) (left : Int) (hn : n ≤ 9223372036854775807) (h0 : 0 ≤ left) (h1 : left ≤ 1048576) (w : World) :
    Calls Try.prog 123 #[.slice ao n c, .int .i64 left] w fun e w' => e = .returned (.int .i64 (lessLen left n)) ∧ w' = w := by
  by_cases h : left < n
  · have HL := Lib.hid (lessLen_yes h)
    go_enter Try.func123, Try.ntmps123
    go_wp2_with fail
    all_goals first | omega | (go_ret; exact ⟨ret_int HL.out.symm, rfl⟩)
  · have HL := Lib.hid (lessLen_no h)
    go_enter Try.func123, Try.ntmps123
    go_wp2_with fail
    all_goals first | omega | (go_ret; exact ⟨ret_int HL.out.symm, rfl⟩)
theorem szSpotS (ao : Option Addr) (n c : Nat) (left : Int) (hn : n ≤ 9223372036854775807) (h0 : 0 ≤ left) (h1 : left ≤ 1048576) (w : World) :
    Calls Try.prog 42 #[.slice ao n c, .int .i64 left] w fun e w' => e = .returned (.int .i64 (lessLen left n)) ∧ w' = w := by
  by_cases h : left < n
  · have HL := Lib.hid (lessLen_yes h)
    go_enter Try.func42, Try.ntmps42
    go_wp2_with fail
    all_goals first | omega | (go_ret; exact ⟨ret_int HL.out.symm, rfl⟩)
  · have HL := Lib.hid (lessLen_no h)
    go_enter Try.func42, Try.ntmps42
    go_wp2_with fail
    all_goals first | omega | (go_ret; exact ⟨ret_int HL.out.symm, rfl⟩)
theorem szFacet (ao : Option Addr) (n c : Nat) (left : Int) (hn : n ≤ 9223372036854775807) (h0 : 0 ≤ left) (h1 : left ≤ 1048576) (w : World) :
    Calls Try.prog 100 #[.agg #[.slice ao n c], .int .i64 left] w fun e w' => e = .returned (.int .i64 (lessLen left n)) ∧ Below w.heap.size w w' := by
  by_cases h : left < n
  · have hL := lessLen_yes h
    go_enter Try.func100, Try.ntmps100
    go_wp2_with (go_at_call 123; refine (szInt64S ao n c left hn h0 h1 _).mono ?_; rintro e w' ⟨rfl, rfl⟩; rw [hL])
    go_ret
    exact ⟨ret_int hL.symm, by (repeat (first | exact Below.refl _ _ | assumption | refine below_dr ?_ _ | refine Below.alloc ?_ (by first | omega | (simp; done) | (simp; omega)) _ | refine Below.setCell ?_ (by first | omega | (simp; done) | (simp; omega)) _ | refine Below.trans ?_ (Below.mono (by assumption) (by first | omega | (simp; done) | (simp; omega)))))⟩
  · have HL := Lib.hid (lessLen_no h)
    go_enter Try.func100, Try.ntmps100
    go_wp2_with (go_at_call 123; refine (szInt64S ao n c left hn h0 h1 _).mono ?_; rintro e w' ⟨rfl, rfl⟩; rw [HL.out])
    all_goals first | omega | (go_ret; exact ⟨ret_int HL.out.symm, by (repeat (first | exact Below.refl _ _ | assumption | refine below_dr ?_ _ | refine Below.alloc ?_ (by first | omega | (simp; done) | (simp; omega)) _ | refine Below.setCell ?_ (by first | omega | (simp; done) | (simp; omega)) _ | refine Below.trans ?_ (Below.mono (by assumption) (by first | omega | (simp; done) | (simp; omega)))))⟩)
theorem lessLen_le {left : Int} {n : Nat} (h0 : 0 ≤ left) : lessLen left n ≤ left := by unfold lessLen; split <;> omega
theorem lessLen_ge {left : Int} {n : Nat} (h0 : 0 ≤ left) (h : ¬ lessLen left n < 0) : ¬ left < n := by unfold lessLen at h; split at h <;> omega

/-- every facet is as short as told -/
def Short (fs : List (List Int)) (n k : Nat) : Prop := ∀ j, j < k → (fAt fs j).length ≤ n
theorem Short.zero (fs : List (List Int)) (n : Nat) : Short fs n 0 := fun _ h => absurd h (Nat.not_lt_zero _)
theorem Short.succ {fs : List (List Int)} {n k : Nat} (h : Short fs n k) (hk : (fAt fs k).length ≤ n) : Short fs n (k + 1) := fun j hj => by
  rcases Nat.lt_succ_iff_lt_or_eq.1 hj with h1 | rfl
  · exact h j h1
  · exact hk

set_option maxHeartbeats 1000000 in
theorem szFacetS (lo hi : Nat) (ao : Option Addr) (c : Nat) (fs : List (List Int)) (left : Int) (hn : fs.length ≤ 9223372036854775807) (hs : Short fs 9223372036854775807 fs.length) (h0 : 0 ≤ left) (h1 : left ≤ 1048576) (w : World)
    (hf : SlN w lo hi ao fs) (hh : hi ≤ w.heap.size) :
    Calls Try.prog 43 #[.slice ao fs.length c, .int .i64 left] w fun e w' => (∃ r, e = .returned (.int .i64 r) ∧ r ≤ 1048576 ∧ (0 ≤ r → fs.length ≤ 1048576 ∧ Short fs 1048576 fs.length)) ∧ Below w.heap.size w w' := by
  have HF := Lib.hid hf
  have HS := Lib.hid hs
  clear hf hs
  go_enter Try.func43, Try.ntmps43
  go_wp2_with fail
  · go_ret
    exact ⟨⟨_, rfl, by omega, fun h => by omega⟩, by (repeat (first | exact Below.refl _ _ | assumption | refine below_dr ?_ _ | refine Below.alloc ?_ (by first | omega | (simp; done) | (simp; omega)) _ | refine Below.setCell ?_ (by first | omega | (simp; done) | (simp; omega)) _ | refine Below.trans ?_ (Below.mono (by assumption) (by first | omega | (simp; done) | (simp; omega)))))⟩
  · go_loopw [1, 5] (fun L i wr => ∃ (k : Nat) (l : Int), k ≤ fs.length ∧ i = .int .i64 k ∧ L = .int .i64 l ∧ 0 ≤ l ∧ l ≤ 1048576 ∧ Hid (Short fs 1048576 k) ∧ Below w.heap.size w wr) (fun _ i _ => fs.length - (intOf i).toNat)
    case atStart => exact ⟨0, _, by omega, rfl, rfl, by omega, by omega, Lib.hid (Short.zero _ _), Below.refl _ _⟩
    case round =>
      obtain ⟨k, l, hk, rfl, rfl, hl0, hl1, hsh, hb⟩ := hrel
      by_cases hlt : k < fs.length
      · obtain ⟨b, off, rfl, hb1, hb2, hc⟩ := (HF.out.far (Far.below hb hh)) (by omega)
        obtain ⟨ai, ci, hc1, hs1⟩ := hc k hlt
        have hlk := HS.out k hlt
        clear hc hs1
        go_wp2_with (go_at_call 100; refine (szFacet ai _ ci l hlk hl0 hl1 _).mono ?_; rintro e w' ⟨rfl, hb3⟩)
        · go_ret
          exact ⟨⟨_, rfl, by omega, fun h => by omega⟩, hb.trans (hb3.mono hb.size)⟩
        · have hk2 := lessLen_ge (n := (fAt fs k).length) hl0 (by omega)
          have hk3 := lessLen_le (n := (fAt fs k).length) hl0
          go_roundw
          case rel => exact ⟨k + 1, _, by omega, by go_num, rfl, by omega, by omega, Lib.hid (hsh.out.succ (by omega)), hb.trans (hb3.mono hb.size)⟩
          case measure => simp [intOf]; omega
      · go_wp2_with fail
        go_ret
        have hkk : k = fs.length := by omega
        exact ⟨⟨_, rfl, by omega, fun _ => ⟨by omega, hkk ▸ hsh.out⟩⟩, hb⟩

/-- what a net's length is bound by -/
structure Fits (ps : List Sp) (fs : List (List Int)) : Prop where
  spots : ps.length ≤ 1048576
  facets : fs.length ≤ 1048576
  short : Short fs 1048576 fs.length

set_option maxHeartbeats 1000000 in
theorem szNet (lo hi : Nat) (sa fa : Option Addr) (cn cm : Nat) (ps : List Sp) (fs : List (List Int)) (hp : ps.length ≤ 9223372036854775807) (hn : fs.length ≤ 9223372036854775807) (hs : Short fs 9223372036854775807 fs.length) (w : World)
    (hnet : NetAt w lo hi sa fa ps fs) (hh : hi ≤ w.heap.size) :
    Calls Try.prog 12 #[netV sa fa ps.length cn fs.length cm, .int .i64 1048576] w fun e w' => (∃ r, e = .returned (.int .i64 r) ∧ (0 ≤ r → Fits ps fs)) ∧ Below w.heap.size w w' := by
  have HN := Lib.hid hnet
  have HS := Lib.hid hs
  clear hnet hs
  unfold netV
  by_cases h : (1048576 : Int) < ps.length
  · have HL := Lib.hid (lessLen_yes h)
    go_enter Try.func12, Try.ntmps12
    go_wp2_with (go_at_call 42; refine (szSpotS sa _ cn _ hp (by omega) (by omega) _).mono ?_; rintro e w' ⟨rfl, rfl⟩; rw [HL.out])
    go_ret
    exact ⟨⟨_, rfl, fun h => by omega⟩, by (repeat (first | exact Below.refl _ _ | assumption | refine below_dr ?_ _ | refine Below.alloc ?_ (by first | omega | (simp; done) | (simp; omega)) _ | refine Below.setCell ?_ (by first | omega | (simp; done) | (simp; omega)) _ | refine Below.trans ?_ (Below.mono (by assumption) (by first | omega | (simp; done) | (simp; omega)))))⟩
  · have HL := Lib.hid (lessLen_no h)
    go_enter Try.func12, Try.ntmps12
    go_wp2_with (go_at_call 42; refine (szSpotS sa _ cn _ hp (by omega) (by omega) _).mono ?_; rintro e w' ⟨rfl, rfl⟩; rw [HL.out])
    · refine (szFacetS lo hi fa cm fs _ hn HS.out (by omega) (by omega) _ (HN.out.facets.far (Far.below (Below.alloc (Below.refl _ _) (Nat.le_refl _) _) hh)) (by simp; omega)).mono ?_
      rintro e w' ⟨⟨r, rfl, hr, hr2⟩, hb⟩
      go_wp2_with fail
      all_goals
        go_ret
        exact ⟨⟨_, rfl, fun h => ⟨by omega, (hr2 (by omega)).1, (hr2 (by omega)).2⟩⟩, by (repeat (first | exact Below.refl _ _ | assumption | refine below_dr ?_ _ | refine Below.alloc ?_ (by first | omega | (simp; done) | (simp; omega)) _ | refine Below.setCell ?_ (by first | omega | (simp; done) | (simp; omega)) _ | refine Below.trans ?_ (Below.mono (by assumption) (by first | omega | (simp; done) | (simp; omega)))))⟩
end Go.Proofs.Ytbmahankleijkaa

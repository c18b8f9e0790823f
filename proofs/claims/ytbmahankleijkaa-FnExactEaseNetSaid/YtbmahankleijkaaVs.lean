/- Contracts: the small functions of the program that ask whether a net is valid. -/
import Derived.Test.YtbmahankleijkaaIsS
import Derived.Test.YtbmahankleijkaaMap
namespace Go.Fl
theorem dec_iff {p q : Prop} (h : p ↔ q) : dec p = dec q := by rw [propext h]
theorem dec_decide {p : Prop} [Decidable p] {q : Prop} (h : p ↔ q) : decide p = dec q := by
  by_cases hp : p
  · rw [decide_eq_true hp, dec_yes (h.1 hp)]
  · rw [decide_eq_false hp, dec_no (fun hq => hp (h.2 hq))]
/-- is x among the first n? -/
def Has (xs : List Int) (n : Nat) (x : Int) : Prop := ∃ s, s < n ∧ iAt xs s = x
end Go.Fl
namespace Go.Proofs.Ytbmahankleijkaa
open Go.RowKit Go.Fl

theorem within (x lo hi : Int) (w : World) : Calls Try.prog 50 #[.int .i64 x, .int .i64 lo, .int .i64 hi] w fun e w' => e = .returned (.bool (inB x lo hi)) ∧ w' = w := by
  by_cases h1 : lo ≤ x
  all_goals by_cases h2 : x ≤ hi
  all_goals
    go_enter Try.func50, Try.ntmps50
    go_wp2_with fail
    go_ret
    exact ⟨ret_bool (by simp [inB, h1, h2]), rfl⟩

set_option maxHeartbeats 1000000 in
theorem isSpot (x y z : Nat) (w : World) : Calls Try.prog 73 #[spV x y z] w fun e w' => e = .returned (.bool (finSp (can .f32 x, can .f32 y, can .f32 z))) ∧ Below w.heap.size w w' := by
  unfold spV
  go_enter Try.func73, Try.ntmps73
  go_wp2_with (go_at_call 118; refine (areFinite [x, y, z] _ _ (slF_new _ [x, y, z] _ _ _ (by simp) (by simp) _ rfl rfl)).mono ?_; rintro e w' ⟨rfl, n, rfl⟩)
  go_ret
  refine ⟨ret_bool (by simp [finSp, List.all_cons, Bool.and_assoc]), by (repeat (first | exact Below.refl _ _ | assumption | refine below_dr ?_ _ | refine Below.alloc ?_ (by first | omega | (simp; done) | (simp; omega)) _ | refine Below.setCell ?_ (by first | omega | (simp; done) | (simp; omega)) _ | refine Below.trans ?_ (Below.mono (by assumption) (by first | omega | (simp; done) | (simp; omega)))))⟩
theorem areSpots1 (x y z : Nat) (w : World) : Calls Try.prog 126 #[spV x y z] w fun e w' => e = .returned (.bool (!finSp (can .f32 x, can .f32 y, can .f32 z))) ∧ Below w.heap.size w w' := by
  have hs : ∀ w, Calls Try.prog 73 #[.agg #[.float .f32 x, .float .f32 y, .float .f32 z]] w fun e w' => e = .returned (.bool (finSp (can .f32 x, can .f32 y, can .f32 z))) ∧ Below w.heap.size w w' := isSpot x y z
  have HS := Lib.hid hs
  clear hs
  unfold spV
  go_enter Try.func126, Try.ntmps126
  go_wp2_with (go_at_call 73; refine (HS.out _).mono ?_; rintro e w' ⟨rfl, hb⟩)
  go_ret
  exact ⟨rfl, Below.trans (by (repeat (first | exact Below.refl _ _ | assumption | refine below_dr ?_ _ | refine Below.alloc ?_ (by first | omega | (simp; done) | (simp; omega)) _ | refine Below.setCell ?_ (by first | omega | (simp; done) | (simp; omega)) _ | refine Below.trans ?_ (Below.mono (by assumption) (by first | omega | (simp; done) | (simp; omega)))))) (hb.mono (by simp))⟩

set_option maxHeartbeats 1000000 in
theorem indexSpots (lo hi : Nat) (ao : Option Addr) (c : Nat) (ps : List Sp) (hn : ps.length ≤ 1048576) (w : World) (hs : SlP w lo hi ao ps) (hh : hi ≤ w.heap.size) :
    Calls Try.prog 133 #[.slice ao ps.length c, .func (.func 126) #[] #[]] w fun e w' => e = .returned (.int .i64 (idx (fun p => !finSp p) ps)) ∧ Below w.heap.size w w' := by
  have HS := Lib.hid hs
  clear hs
  go_enter Try.func133, Try.ntmps133
  go_wp2_with fail
  go_loopw [8] (fun i wr => ∃ k : Nat, k ≤ ps.length ∧ i = .int .i64 k ∧ Hid (Below w.heap.size w wr) ∧ Hid ((ps.take k).any (fun p => !finSp p) = false)) (fun i _ => ps.length - (intOf i).toNat)
  case atStart => exact ⟨0, by omega, rfl, Below.refl _ _, rfl⟩
  case round =>
    obtain ⟨k, hk, rfl, HW, HA⟩ := hrel
    by_cases hlt : k < ps.length
    · obtain ⟨b1, o1, rfl, _, q1, hc1⟩ := HS.out.far (Far.below HW.out hh) (by omega)
      obtain ⟨x, y, z, c1, c2, c3, f1, f2, f3⟩ := hc1 k hlt
      have hp : (can .f32 x, can .f32 y, can .f32 z) = ps[k] := by
        have : ps[k] = pAt ps k := by simp [pAt, hlt]
        rw [show can .f32 x = _ from f1, show can .f32 y = _ from f2, show can .f32 z = _ from f3, this]
      have HP := Lib.hid hp
      have HI := Lib.hid (idx_some (p := fun p => !finSp p) hlt HA.out)
      have HN := Lib.hid (any_snoc (p := fun p => !finSp p) hlt HA.out)
      clear hc1 f1 f2 f3 hp
      have k0 : (0 : Int) ≤ (k : Int) := by omega
      have k1 : (k : Int) < (ps.length : Int) := by omega
      cases hfin : finSp ps[k]
      all_goals
        have HF := Lib.hid hfin
        clear hfin
        go_wp2_with (go_at_call 126; refine (areSpots1 x y z _).mono ?_; rintro e w3 ⟨rfl, hb3⟩; rw [HP.out, HF.out])
      · go_ret
        exact ⟨ret_int (HI.out (by simp [HF.out])).symm, HW.out.trans (hb3.mono HW.out.size)⟩
      · go_roundw
        case rel => exact ⟨k + 1, by omega, by go_num, HW.out.trans (hb3.mono HW.out.size), HN.out (by simp [HF.out])⟩
        case measure => simp [intOf]; omega
    · go_wp2_with fail
      go_ret
      refine ⟨ret_int ?_, HW.out⟩
      have := HA.out
      rw [List.take_of_length_le (by omega)] at this
      exact (idx_none this).symm

theorem containsSpots (lo hi : Nat) (ao : Option Addr) (c : Nat) (ps : List Sp) (hn : ps.length ≤ 1048576) (w : World) (hs : SlP w lo hi ao ps) (hh : hi ≤ w.heap.size) :
    Calls Try.prog 125 #[.slice ao ps.length c, .func (.func 126) #[] #[]] w fun e w' => e = .returned (.bool (ps.any fun p => !finSp p)) ∧ Below w.heap.size w w' := by
  have HS := Lib.hid hs
  clear hs
  go_enter Try.func125, Try.ntmps125
  go_wp2_with fail
  refine (indexSpots lo hi ao c ps hn _ HS.out hh).mono ?_
  rintro e w' ⟨rfl, hb⟩
  go_wp2_with fail
  go_ret
  exact ⟨ret_bool (idx_ge _ ps), hb⟩
set_option maxRecDepth 100000 in
theorem areSpots (lo hi : Nat) (ao : Option Addr) (c : Nat) (ps : List Sp) (hn : ps.length ≤ 1048576) (w : World) (hs : SlP w lo hi ao ps) (hh : hi ≤ w.heap.size) :
    Calls Try.prog 104 #[.slice ao ps.length c] w fun e w' => e = .returned (.bool (ps.all finSp)) ∧ Below w.heap.size w w' := by
  have HS := Lib.hid hs
  clear hs
  go_enter Try.func104, Try.ntmps104
  go_wp2_with fail
  refine (containsSpots lo hi ao c ps hn _ HS.out hh).mono ?_
  rintro e w' ⟨rfl, hb⟩
  go_wp2_with fail
  go_ret
  exact ⟨ret_bool (any_not _ _), hb⟩

set_option maxHeartbeats 1000000 in
theorem indexI (lo hi n : Nat) (ao : Option Addr) (c : Nat) (xs : List Int) (v : Int) (hn : n ≤ 1048576) (hx : n ≤ xs.length) (w : World) (hs : SlI w lo hi ao xs) :
    Calls Try.prog 127 #[.slice ao n c, .int .i64 v] w fun e w' => (∃ r, e = .returned (.int .i64 r) ∧ (0 ≤ r ↔ Has xs n v)) ∧ w' = w := by
  have HS := Lib.hid hs
  clear hs
  go_enter Try.func127, Try.ntmps127
  go_wp2_with fail
  go_loopw [8] (fun i wr => ∃ k : Nat, k ≤ n ∧ i = .int .i64 k ∧ Hid (wr = w) ∧ Hid (¬ Has xs k v)) (fun i _ => n - (intOf i).toNat)
  case atStart => exact ⟨0, by omega, rfl, rfl, fun ⟨s, h, _⟩ => absurd h (Nat.not_lt_zero _)⟩
  case round =>
    obtain ⟨k, hk, rfl, HW, HA⟩ := hrel
    have := HW.out
    subst this
    by_cases hlt : k < n
    · obtain ⟨b1, o1, rfl, _, q1, hc1⟩ := HS.out (by omega)
      have c1 := hc1 k (by omega)
      clear hc1
      have k0 : (0 : Int) ≤ (k : Int) := by omega
      have k1 : (k : Int) < (n : Int) := by omega
      by_cases he : iAt xs k = v
      · have HE := Lib.hid he
        go_wp2_with fail
        go_ret
        exact ⟨⟨_, rfl, by simp; exact ⟨k, by omega, HE.out⟩⟩, rfl⟩
      · have HE := Lib.hid he
        go_wp2_with fail
        go_roundw
        case rel =>
          refine ⟨k + 1, by omega, by go_num, Lib.hid trivial, ?_⟩
          rintro ⟨s, h1, h2⟩
          by_cases hsk : s = k
          · subst hsk; exact HE.out h2
          · exact HA.out ⟨s, by omega, h2⟩
        case measure => simp [intOf]; omega
    · have hkn : k = n := by omega
      subst hkn
      go_wp2_with fail
      go_ret
      exact ⟨⟨_, rfl, ⟨fun h => by omega, fun h => absurd h HA.out⟩⟩, rfl⟩
theorem containsI (lo hi n : Nat) (ao : Option Addr) (c : Nat) (xs : List Int) (v : Int) (hn : n ≤ 1048576) (hx : n ≤ xs.length) (w : World) (hs : SlI w lo hi ao xs) :
    Calls Try.prog 105 #[.slice ao n c, .int .i64 v] w fun e w' => e = .returned (.bool (dec (Has xs n v))) ∧ w' = w := by
  have HS := Lib.hid hs
  clear hs
  go_enter Try.func105, Try.ntmps105
  go_wp2_with fail
  refine (indexI lo hi n ao c xs v hn hx _ HS.out).mono ?_
  rintro e w' ⟨⟨r, rfl, hr⟩, rfl⟩
  have HR := Lib.hid hr
  clear hr
  go_wp2_with fail
  go_ret
  exact ⟨ret_bool (dec_decide HR.out), rfl⟩

set_option maxHeartbeats 1000000 in
theorem indexB (b n c T : Nat) (p : Nat → Bool) (hn : n ≤ 1048576) (w : World) (hs : w.rowIs b T n (fun v => .bool (p v))) :
    Calls Try.prog 128 #[.slice (some ⟨b, 0, none⟩) n c, .bool false] w fun e w' => (∃ r, e = .returned (.int .i64 r) ∧ (0 ≤ r ↔ ∃ s, s < n ∧ p s = false)) ∧ w' = w := by
  have HS := Lib.hid hs
  clear hs
  go_enter Try.func128, Try.ntmps128
  go_wp2_with fail
  go_loopw [8] (fun i wr => ∃ k : Nat, k ≤ n ∧ i = .int .i64 k ∧ Hid (wr = w) ∧ Hid (¬ ∃ s, s < k ∧ p s = false)) (fun i _ => n - (intOf i).toNat)
  case atStart => exact ⟨0, by omega, rfl, rfl, fun ⟨s, h, _⟩ => absurd h (Nat.not_lt_zero _)⟩
  case round =>
    obtain ⟨k, hk, rfl, HW, HA⟩ := hrel
    have := HW.out
    subst this
    by_cases hlt : k < n
    · have c1 := HS.out.cell hlt
      have k0 : (0 : Int) ≤ (k : Int) := by omega
      have k1 : (k : Int) < (n : Int) := by omega
      cases he : p k
      · have HE := Lib.hid he
        rw [he] at c1
        clear he
        go_wp2_with fail
        go_ret
        exact ⟨⟨_, rfl, by simp; exact ⟨k, by omega, HE.out⟩⟩, rfl⟩
      · have HE := Lib.hid he
        rw [he] at c1
        clear he
        go_wp2_with fail
        go_roundw
        case rel =>
          refine ⟨k + 1, by omega, by go_num, Lib.hid trivial, ?_⟩
          rintro ⟨s, h1, h2⟩
          by_cases hsk : s = k
          · subst hsk; rw [HE.out] at h2; cases h2
          · exact HA.out ⟨s, by omega, h2⟩
        case measure => simp [intOf]; omega
    · have hkn : k = n := by omega
      subst hkn
      go_wp2_with fail
      go_ret
      exact ⟨⟨_, rfl, ⟨fun h => by omega, fun h => absurd h HA.out⟩⟩, rfl⟩
theorem containsB (b n c T : Nat) (p : Nat → Bool) (hn : n ≤ 1048576) (w : World) (hs : w.rowIs b T n (fun v => .bool (p v))) :
    Calls Try.prog 108 #[.slice (some ⟨b, 0, none⟩) n c, .bool false] w fun e w' => e = .returned (.bool (dec (∃ s, s < n ∧ p s = false))) ∧ w' = w := by
  have HS := Lib.hid hs
  clear hs
  go_enter Try.func108, Try.ntmps108
  go_wp2_with fail
  refine (indexB b n c T p hn _ HS.out).mono ?_
  rintro e w' ⟨⟨r, rfl, hr⟩, rfl⟩
  have HR := Lib.hid hr
  clear hr
  go_wp2_with fail
  go_ret
  exact ⟨ret_bool (dec_decide HR.out), rfl⟩
end Go.Proofs.Ytbmahankleijkaa

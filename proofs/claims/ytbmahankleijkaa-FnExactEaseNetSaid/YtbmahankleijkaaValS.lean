/- Contracts: whether a net is valid, the reference's. -/
import Derived.Test.YtbmahankleijkaaTo
import Derived.Test.YtbmahankleijkaaNf
import Derived.Deep.QuietTactic
import Derived.BigQuiet
import Derived.Deep.RegionHeld3
import Derived.Deep.AppendLies
namespace Go.Fl
/-- all three parts are finite -/
def finSp (p : Sp) : Bool := fin p.1 && fin p.2.1 && fin p.2.2
/-- from lo to hi -/
def inB (x lo hi : Int) : Bool := decide (lo ≤ x) && decide (x ≤ hi)
/-- a proposition's answer -/
noncomputable def dec (p : Prop) : Bool := @decide p (Classical.propDecidable p)
theorem dec_yes {p : Prop} (h : p) : dec p = true := @decide_eq_true p (Classical.propDecidable p) h
theorem dec_no {p : Prop} (h : ¬ p) : dec p = false := @decide_eq_false p (Classical.propDecidable p) h
/-- the first k corners are of n spots, none of them twice -/
def FGood (n : Nat) (f : List Int) (k : Nat) : Prop := ∀ t, t < k → inB (iAt f t) 0 ((n : Int) - 1) = true ∧ ∀ s, s < t → iAt f s ≠ iAt f t
/-- a facet of a net of n spots -/
def OkF (n : Nat) (f : List Int) : Prop := 3 ≤ f.length ∧ f.length ≤ 8 ∧ FGood n f f.length
theorem OkF.not_in {n t : Nat} {f : List Int} (ht : t < f.length) (h : inB (iAt f t) 0 ((n : Int) - 1) = false) : ¬ OkF n f := fun q => by rw [(q.2.2 t ht).1] at h; cases h
theorem OkF.not_eq {n t s : Nat} {f : List Int} (ht : t < f.length) (hs : s < t) (h : iAt f s = iAt f t) : ¬ OkF n f := fun q => (q.2.2 t ht).2 s hs h
/-- the first place at which from and to hold a and b; -1 if there is none -/
def sideAt (from' to' : List Int) (a b : Int) : Int := idx (fun i => iAt from' i == a && iAt to' i == b) (List.range from'.length)
theorem sideAt_none {xs ys : List Int} {a b : Int} (h : ∀ t, t < xs.length → ¬ (iAt xs t = a ∧ iAt ys t = b)) : sideAt xs ys a b = -1 := by
  refine idx_none ?_
  rw [List.any_eq_false]
  intro i hi
  rw [List.mem_range] at hi
  have := h i hi
  simp only [Bool.and_eq_true, beq_iff_eq]
  exact this
theorem sideAt_some {xs ys : List Int} {a b : Int} {k : Nat} (hk : k < xs.length) (h : ∀ t, t < k → ¬ (iAt xs t = a ∧ iAt ys t = b)) (h1 : iAt xs k = a) (h2 : iAt ys k = b) : sideAt xs ys a b = k := by
  refine idx_some (by simpa using hk) ?_ (by simp [h1, h2])
  rw [List.any_eq_false]
  intro i hi
  rw [List.mem_take_iff_getElem] at hi
  obtain ⟨j, hj, rfl⟩ := hi
  have := h j (by simp at hj; omega)
  simp only [List.getElem_range, Bool.and_eq_true, beq_iff_eq]
  exact this
end Go.Fl
namespace Go.Proofs.Ytbmahankleijkaa
open Go.RowKit Go.Fl

theorem l00In (x lo hi : Int) (w : World) : Calls Try.prog 45 #[.int .i64 x, .int .i64 lo, .int .i64 hi] w fun e w' => e = .returned (.bool (inB x lo hi)) ∧ w' = w := by
  by_cases h1 : lo ≤ x
  all_goals by_cases h2 : x ≤ hi
  all_goals
    go_enter Try.func45, Try.ntmps45
    go_wp2_with fail
    go_ret
    exact ⟨ret_bool (by simp [inB, h1, h2]), rfl⟩

set_option maxHeartbeats 1000000 in
theorem l04Spot (x y z : Nat) (w : World) : Calls Try.prog 112 #[spV x y z] w fun e w' => e = .returned (.bool (finSp (can .f32 x, can .f32 y, can .f32 z))) ∧ Below w.heap.size w w' := by
  unfold spV
  cases h1 : fin (can .f32 x)
  all_goals cases h2 : fin (can .f32 y)
  all_goals
    go_enter Try.func112, Try.ntmps112
    go_wp2_with (go_at_call 117; refine (l01Finite _ _).mono ?_; rintro e w' ⟨rfl, n, rfl⟩)
    all_goals
      go_ret
      exact ⟨ret_bool (by simp [finSp, *]), by (repeat (first | exact Below.refl _ _ | assumption | refine below_dr ?_ _ | refine Below.alloc ?_ (by first | omega | (simp; done) | (simp; omega)) _ | refine Below.setCell ?_ (by first | omega | (simp; done) | (simp; omega)) _ | refine Below.trans ?_ (Below.mono (by assumption) (by first | omega | (simp; done) | (simp; omega)))))⟩

set_option maxHeartbeats 1000000 in
theorem l04Spots (lo hi : Nat) (ao : Option Addr) (c : Nat) (ps : List Sp) (hn : ps.length ≤ 1048576) (w : World) (hs : SlP w lo hi ao ps) (hh : hi ≤ w.heap.size) :
    Calls Try.prog 57 #[.slice ao ps.length c] w fun e w' => e = .returned (.bool (ps.all finSp)) ∧ Below w.heap.size w w' := by
  have HS := Lib.hid hs
  clear hs
  go_enter Try.func57, Try.ntmps57
  go_wp2_with fail
  go_loopw [3] (fun i wr => ∃ k : Nat, k ≤ ps.length ∧ i = .int .i64 k ∧ Hid (Below w.heap.size w wr) ∧ Hid ((ps.take k).all finSp = true)) (fun i _ => ps.length - (intOf i).toNat)
  case atStart => exact ⟨0, by omega, rfl, Below.refl _ _, rfl⟩
  case round =>
    obtain ⟨k, hk, rfl, HW, HA⟩ := hrel
    by_cases hlt : k < ps.length
    · obtain ⟨b1, o1, rfl, _, q1, hc1⟩ := HS.out.far (Far.below HW.out hh) (by omega)
      obtain ⟨x, y, z, c1, c2, c3, f1, f2, f3⟩ := hc1 k hlt
      have hp : (can .f32 x, can .f32 y, can .f32 z) = pAt ps k := by
        rw [show can .f32 x = _ from f1, show can .f32 y = _ from f2, show can .f32 z = _ from f3]
      have HP := Lib.hid hp
      clear hc1 f1 f2 f3 hp
      have k0 : (0 : Int) ≤ (k : Int) := by omega
      have k1 : (k : Int) < (ps.length : Int) := by omega
      cases hfin : finSp (pAt ps k)
      all_goals
        go_wp2_with (go_at_call 112; refine (l04Spot x y z _).mono ?_; rintro e w3 ⟨rfl, hb3⟩; rw [HP.out, hfin])
      · go_ret
        refine ⟨ret_bool (Eq.symm ?_), HW.out.trans (hb3.mono HW.out.size)⟩
        rw [List.all_eq_false]
        exact ⟨pAt ps k, by simp [pAt, hlt], by rw [hfin]; decide⟩
      · go_roundw
        case rel => 
          refine ⟨k + 1, by omega, by go_num, HW.out.trans (hb3.mono HW.out.size), ?_⟩
          show _ = true
          rw [List.take_succ_eq_append_getElem hlt, List.all_append, HA.out]
          have : ps[k] = pAt ps k := by simp [pAt, hlt]
          simp [this, hfin]
        case measure => simp [intOf]; omega
    · go_wp2_with fail
      go_ret
      refine ⟨ret_bool ?_, HW.out⟩
      have := HA.out
      rw [List.take_of_length_le (by omega)] at this
      exact this.symm

set_option maxHeartbeats 1000000 in
theorem l06Facet (lo hi b o : Nat) (ai : Option Addr) (ci n : Nat) (f : List Int) (hl : f.length ≤ 1048576) (hn : n ≤ 1048576) (w : World) (hc : w.cell? ⟨b, o, none⟩ = some (.slice ai f.length ci)) (hs : SlI w lo hi ai f) :
    Calls Try.prog 101 #[.pointer (some ⟨b, o, none⟩), .int .i64 n] w fun e w' => e = .returned (.bool (dec (OkF n f))) ∧ ∃ q, w' = w.drewN q := by
  have HS := Lib.hid hs
  clear hs
  by_cases h3 : 3 ≤ f.length
  rotate_left
  · have hd := dec_no (p := OkF n f) (fun q => h3 q.1)
    go_enter Try.func101, Try.ntmps101
    go_wp2_with fail
    go_ret
    exact ⟨ret_bool (by first | exact hd.symm | rfl), 0, rfl⟩
  by_cases h8 : f.length ≤ 8
  rotate_left
  · have hd := dec_no (p := OkF n f) (fun q => h8 q.2.1)
    go_enter Try.func101, Try.ntmps101
    go_wp2_with fail
    go_ret
    exact ⟨ret_bool (by first | exact hd.symm | rfl), 0, rfl⟩
  obtain ⟨b1, o1, rfl, _, _, hcs⟩ := HS.out (by omega)
  have HCS := Lib.hid hcs
  clear hcs HS
  go_enter Try.func101, Try.ntmps101
  go_wp2_with fail
  go_loopw [5] (fun i wr => ∃ k q : Nat, k ≤ f.length ∧ i = .int .i64 k ∧ wr = w.drewN q ∧ Hid (FGood n f k)) (fun i _ => f.length - (intOf i).toNat)
  case atStart => exact ⟨0, 0, by omega, rfl, rfl, fun t ht => absurd ht (Nat.not_lt_zero _)⟩
  case round =>
    obtain ⟨k, q, hk, rfl, rfl, HG⟩ := hrel
    by_cases hlt : k < f.length
    · have c1 := HCS.out k hlt
      have k0 : (0 : Int) ≤ (k : Int) := by omega
      have k1 : (k : Int) < (f.length : Int) := by omega
      cases hin : inB (iAt f k) 0 ((n : Int) - 1)
      · have hd := dec_no (OkF.not_in hlt hin)
        go_wp2_with (go_at_call 45; refine (l00In _ _ _ _).mono ?_; rintro e w3 ⟨rfl, rfl⟩; rw [hin])
        go_ret
        exact ⟨ret_bool (by first | exact hd.symm | rfl), _, rfl⟩
      · go_wp2_with (go_at_call 45; refine (l00In _ _ _ _).mono ?_; rintro e w3 ⟨rfl, rfl⟩; rw [hin])
        go_loopw [6] (fun j wr => ∃ t q' : Nat, t ≤ k ∧ j = .int .i64 t ∧ wr = w.drewN q' ∧ Hid (∀ s, s < t → iAt f s ≠ iAt f k)) (fun j _ => k - (intOf j).toNat)
        case atStart => exact ⟨0, q, by omega, rfl, rfl, fun s hs => absurd hs (Nat.not_lt_zero _)⟩
        case round =>
          obtain ⟨t, q', ht, rfl, rfl, HT⟩ := hrel
          by_cases hlt2 : t < k
          · have c2 := HCS.out t (by omega)
            have t0 : (0 : Int) ≤ (t : Int) := by omega
            have t1 : (t : Int) < (f.length : Int) := by omega
            by_cases he : iAt f t = iAt f k
            · have hd := dec_no (OkF.not_eq (n := n) hlt hlt2 he)
              go_wp2_with fail
              go_quiet (fail)
              go_wp2_with fail
              go_ret
              exact ⟨ret_bool (by first | exact hd.symm | rfl), (by (try simp only [World.drewN_drewN]); exact ⟨_, rfl⟩)⟩
            · go_wp2_with fail
              go_quiet (fail)
              go_wp2_with fail
              go_roundw
              case rel =>
                refine ⟨t + 1, q' + nq, by omega, by go_num, by simp only [World.drewN_drewN], fun s hs => ?_⟩
                by_cases hst : s = t
                · subst hst; exact he
                · exact HT.out s (by omega)
              case measure => simp [intOf]; omega
          · go_wp2_with fail
            have htk : t = k := by omega
            subst htk
            go_roundw
            case rel =>
              refine ⟨t + 1, q', by omega, by go_num, rfl, fun s hs => ?_⟩
              by_cases hst : s = t
              · subst hst; exact ⟨hin, HT.out⟩
              · exact HG.out s (by omega)
            case measure => simp [intOf]; omega
    · go_wp2_with fail
      go_ret
      have hkk : k = f.length := by omega
      subst hkk
      exact ⟨ret_bool (dec_yes ⟨h3, h8, HG.out⟩).symm, _, rfl⟩

set_option maxHeartbeats 1000000 in
theorem l06Side (lo hi lo' hi' : Nat) (a1 a2 : Option Addr) (d1 d2 : Nat) (xs ys : List Int) (a b : Int) (hn : xs.length ≤ 1099511627776) (hl : ys.length = xs.length) (w : World) (h1 : SlI w lo hi a1 xs) (h2 : SlI w lo' hi' a2 ys) :
    Calls Try.prog 98 #[.slice a1 xs.length d1, .slice a2 xs.length d2, .int .i64 a, .int .i64 b] w fun e w' => e = .returned (.int .i64 (sideAt xs ys a b)) ∧ w' = w := by
  have H1 := Lib.hid h1
  have H2 := Lib.hid h2
  have HL := Lib.hid hl
  clear h1 h2 hl
  go_enter Try.func98, Try.ntmps98
  go_wp2_with fail
  go_loopw [9] (fun i wr => ∃ k : Nat, k ≤ xs.length ∧ i = .int .i64 k ∧ wr = w ∧ Hid (∀ t, t < k → ¬ (iAt xs t = a ∧ iAt ys t = b))) (fun i _ => xs.length - (intOf i).toNat)
  case atStart => exact ⟨0, by omega, rfl, rfl, fun t ht => absurd ht (Nat.not_lt_zero _)⟩
  case round =>
    obtain ⟨k, hk, rfl, rfl, HG⟩ := hrel
    by_cases hlt : k < xs.length
    · obtain ⟨b1, o1, rfl, _, _, hc1⟩ := H1.out (by omega)
      obtain ⟨b2, o2, rfl, _, _, hc2⟩ := H2.out (by have := HL.out; omega)
      have c1 := hc1 k hlt
      have c2 := hc2 k (by have := HL.out; omega)
      clear hc1 hc2
      have k0 : (0 : Int) ≤ (k : Int) := by omega
      have k1 : (k : Int) < (xs.length : Int) := by omega
      by_cases e1 : iAt xs k = a
      all_goals by_cases e2 : iAt ys k = b
      · have HD := Lib.hid (sideAt_some hlt HG.out e1 e2)
        go_wp2_with fail
        go_ret
        exact ⟨ret_int HD.out.symm, rfl⟩
      all_goals
        have hnew : ¬ (iAt xs k = a ∧ iAt ys k = b) := fun q => by first | exact e2 q.2 | exact e1 q.1
        have HNEW := Lib.hid hnew
        clear hnew
        go_wp2_with fail
        go_roundw
        case rel =>
          refine ⟨k + 1, by omega, by go_num, trivial, fun s hs => ?_⟩
          by_cases hst : s = k
          · subst hst; exact HNEW.out
          · exact HG.out s (by omega)
        case measure => simp [intOf]; omega
    · have HD := Lib.hid (sideAt_none (xs := xs) (ys := ys) (a := a) (b := b) fun t ht => HG.out t (by omega))
      go_wp2_with fail
      go_ret
      exact ⟨ret_int HD.out.symm, rfl⟩
end Go.Proofs.Ytbmahankleijkaa

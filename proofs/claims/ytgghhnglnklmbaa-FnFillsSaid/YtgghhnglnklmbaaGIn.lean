/- How often an outline goes around a point; whether a point is inside, the program's. -/
import Derived.Test.YtgghhnglnklmbaaGWi
namespace Go.Fl
open Go.RowKit
def kAt (kls : List (List Zp)) (i : Nat) : List Zp := kls.getD i []
/-- an outline in memory: its loops, and what they are in units of 1/32 -/
structure OL (w : World) (lo hi : Nat) (ao : Option Addr) (nm : ByteArray) (ls : List (List Cx)) (kls : List (List Zp)) : Prop where
  ok : okOut nm ls
  sl : SlL w lo hi ao ls
  len : kls.length = ls.length
  q : ∀ i, i < ls.length → PtsQ (lpAt ls i) (kAt kls i) 5
  top : hi ≤ w.heap.size
theorem OL.far {w w' : World} {lo hi : Nat} {ao : Option Addr} {nm : ByteArray} {ls : List (List Cx)} {kls : List (List Zp)} (h : OL w lo hi ao nm ls kls) (hf : Far lo hi w w') (hs : w.heap.size ≤ w'.heap.size) : OL w' lo hi ao nm ls kls :=
  ⟨h.ok, h.sl.far hf, h.len, h.q, Nat.le_trans h.top hs⟩
theorem OL.below {w w' : World} {lo hi B : Nat} {ao : Option Addr} {nm : ByteArray} {ls : List (List Cx)} {kls : List (List Zp)} (h : OL w lo hi ao nm ls kls) (hb : Below B w w') (hB : hi ≤ B) : OL w' lo hi ao nm ls kls :=
  h.far (Far.below hb hB) hb.size
theorem OL.alloc {w : World} {lo hi : Nat} {ao : Option Addr} {nm : ByteArray} {ls : List (List Cx)} {kls : List (List Zp)} (h : OL w lo hi ao nm ls kls) (o : Obj) : OL (w.alloc o) lo hi ao nm ls kls :=
  h.below (Below.alloc (Below.refl w.heap.size w) (Nat.le_refl _) o) h.top
theorem OL.drewN {w : World} {lo hi : Nat} {ao : Option Addr} {nm : ByteArray} {ls : List (List Cx)} {kls : List (List Zp)} (h : OL w lo hi ao nm ls kls) (n : Nat) : OL (w.drewN n) lo hi ao nm ls kls :=
  h.far ((Far.refl _ _ _).drewN n) (Nat.le_refl _)
theorem OL.loop {w : World} {lo hi : Nat} {ao : Option Addr} {nm : ByteArray} {ls : List (List Cx)} {kls : List (List Zp)} (h : OL w lo hi ao nm ls kls) {i : Nat} (hi' : i < ls.length) : okLoop (lpAt ls i) = true ∧ 3 ≤ (lpAt ls i).length ∧ (lpAt ls i).length ≤ 64 := by
  have h1 : okLoop (lpAt ls i) = true := by
    have e : lpAt ls i = ls[i] := by simp [lpAt, hi']
    rw [e]
    exact List.all_eq_true.1 h.ok.2.2.2 _ (List.getElem_mem hi')
  refine ⟨h1, ?_⟩
  unfold okLoop at h1
  simp only [Bool.and_eq_true, decide_eq_true_eq] at h1
  exact h1.1
theorem OL.short {w : World} {lo hi : Nat} {ao : Option Addr} {nm : ByteArray} {ls : List (List Cx)} {kls : List (List Zp)} (h : OL w lo hi ao nm ls kls) : nm.size ≤ 1048576 ∧ ls.length ≤ 4 ∧ 1 ≤ ls.length ∧ ∀ i, i < ls.length → (lpAt ls i).length ≤ 1048576 :=
  ⟨by have := h.ok.1.2.2; omega, h.ok.2.2.1, h.ok.2.1, fun i hi' => by have := (h.loop hi').2.2; omega⟩
/-- the sum over the first k loops -/
def windL (kls : List (List Zp)) (z : Zp) : Nat → Int
  | 0 => 0
  | k + 1 => windL kls z k + windZ (kAt kls k) z
def windA (kls : List (List Zp)) (z : Zp) : Int := windL kls z kls.length
theorem windL_bound (kls : List (List Zp)) (z : Zp) (h : ∀ i, i < kls.length → (kAt kls i).length ≤ 64) : ∀ k, k ≤ kls.length → (windL kls z k).natAbs ≤ 64 * k
  | 0, _ => by simp [windL]
  | k + 1, hk => by
    have h1 := windL_bound kls z h k (by omega)
    have h2 := windZ_bound (kAt kls k) z
    have h3 := h k (by omega)
    show (windL kls z k + _).natAbs ≤ _
    omega
theorem OL.klen {w : World} {lo hi : Nat} {ao : Option Addr} {nm : ByteArray} {ls : List (List Cx)} {kls : List (List Zp)} (h : OL w lo hi ao nm ls kls) : ∀ i, i < kls.length → (kAt kls i).length ≤ 64 := fun i hi' => by
  have hl : i < ls.length := by rw [← h.len]; exact hi'
  rw [(h.q i hl).len]; exact (h.loop hl).2.2
/-- inside -/
def insZ (kls : List (List Zp)) (z : Zp) (even : Bool) : Bool := if even then decide (windA kls z % 2 ≠ 0) else decide (windA kls z ≠ 0)
end Go.Fl
namespace Go.Proofs.Ytgghhnglnklmbaa
open Go.RowKit Go.Fl

set_option maxHeartbeats 2000000 in
set_option maxRecDepth 100000 in
theorem winding (lo hi : Nat) (ao : Option Addr) (c : Nat) (nm : ByteArray) (ls : List (List Cx)) (kls : List (List Zp)) (z : Cx) (kz : Zp) (w : World) (h : OL w lo hi ao nm ls kls) (hz : okPt z = true) (hkz : PtQ z kz 5) (hlz : lowZ kz 1024) :
    Calls Try.prog 33 #[.agg #[.string nm, .slice ao ls.length c], cV z] w fun e w' => e = .returned (.int .i64 (windA kls kz)) ∧ Below w.heap.size w w' := by
  have HO := Lib.hid (h.alloc (.cells #[.string nm, .slice ao ls.length c] 26))
  have HWB := Lib.hid (windL_bound kls kz h.klen)
  have HL := Lib.hid h.len
  obtain ⟨hs1, hs2, hs3, _⟩ := h.short
  have HB := Lib.hid (show Below w.heap.size w (w.alloc (.cells #[.string nm, .slice ao ls.length c] 26)) from Below.alloc (Below.refl _ _) (Nat.le_refl _) _)
  clear h
  go_enter Try.func33, Try.ntmps33
  go_wp2_with fail
  go_loopw [5, 13] (fun cnt i wr => ∃ (k q : Nat) (S : Int), k ≤ ls.length ∧ i = .int .i64 k ∧ cnt = .int .i64 S ∧ Hid (S = windL kls kz k) ∧ wr = (w.alloc (.cells #[.string nm, .slice ao ls.length c] 26)).drewN q) (fun _ i _ => ls.length - (intOf i).toNat)
  case atStart => exact ⟨0, 0, 0, by omega, rfl, rfl, Lib.hid rfl, rfl⟩
  case round =>
    obtain ⟨k, q, S, hk, rfl, rfl, HS0, rfl⟩ := hrel
    have sb := HWB.out k (by rw [HL.out]; exact hk)
    rw [← HS0.out] at sb
    have s1 : -256 ≤ S := by omega
    have s2 : S ≤ 256 := by omega
    clear sb
    by_cases hlt : k < ls.length
    · obtain ⟨b, rfl, hb1, hb2, hc⟩ := (HO.out.drewN q).sl (by omega)
      obtain ⟨ai, ci, c1, hs1'⟩ := hc k hlt
      have HSL := Lib.hid hs1'
      have HQ := Lib.hid (HO.out.q k hlt)
      have HLP := Lib.hid (HO.out.loop hlt)
      have k0 : (0 : Int) ≤ (k : Int) := by omega
      have k1 : (k : Int) < (ls.length : Int) := by omega
      have sb2 := windL_bound kls kz HO.out.klen (k + 1) (by rw [HL.out]; exact hlt)
      have he : windL kls kz (k + 1) = S + windZ (kAt kls k) kz := by rw [HS0.out]; rfl
      rw [he] at sb2
      have HE := Lib.hid he
      obtain ⟨D, hD⟩ : ∃ D, D = windZ (kAt kls k) kz := ⟨_, rfl⟩
      rw [← hD] at sb2
      have HD := Lib.hid hD
      have w1 : IntKind.i64.wrap (S + D) = S + D := by rw [IntKind.wrap_i64]; omega
      clear hc hs1' sb2 he hD
      go_wp2_with fail
      refine (windingAt lo hi ai ci (lpAt ls k) (kAt kls k) z kz HLP.out.2.1 HLP.out.2.2 HLP.out.1 hz _ HSL.out HQ.out hkz hlz).mono ?_
      rintro e w2 ⟨rfl, q2, rfl⟩
      rw [← HD.out]
      go_wp2_with fail
      exact ⟨⟨k + 1, _, S + D, by omega, by go_num, rfl, Lib.hid (by rw [HE.out, HD.out]), rfl⟩, by simp [intOf]; omega⟩
    · have hkn : k = ls.length := by omega
      subst hkn
      have HW : Hid (S = windA kls kz) := Lib.hid (by rw [HS0.out]; unfold windA; rw [HL.out])
      go_wp2_with fail
      go_ret
      exact ⟨(by rw [HW.out]; rfl), below_dr HB.out _⟩

set_option maxHeartbeats 1000000 in
theorem insideP (lo hi : Nat) (ao : Option Addr) (c : Nat) (nm : ByteArray) (ls : List (List Cx)) (kls : List (List Zp)) (z : Cx) (kz : Zp) (even : Bool) (w : World) (h : OL w lo hi ao nm ls kls) (hz : okPt z = true) (hkz : PtQ z kz 5) (hlz : lowZ kz 1024) :
    Calls Try.prog 21 #[.agg #[.string nm, .slice ao ls.length c], cV z, .bool even] w fun e w' => e = .returned (.bool (insZ kls kz even)) ∧ Below w.heap.size w w' := by
  have HO := Lib.hid (h.alloc (.cells #[.string nm, .slice ao ls.length c] 26))
  have sb := windL_bound kls kz h.klen kls.length (Nat.le_refl _)
  have hl4 := h.short.2.1
  have hl5 := h.len
  obtain ⟨S, hS⟩ : ∃ S, S = windA kls kz := ⟨_, rfl⟩
  have s1 : -256 ≤ S ∧ S ≤ 256 := by rw [hS]; unfold windA; omega
  have HSS := Lib.hid hS
  obtain ⟨s1, s2⟩ := s1
  clear h sb hS hl5
  go_enter Try.func21, Try.ntmps21
  go_wp2_with fail
  refine (winding lo hi ao c nm ls kls z kz _ HO.out hz hkz hlz).mono ?_
  rintro e w1 ⟨rfl, hb⟩
  rw [← HSS.out]
  have HB := Lib.hid (show Below w.heap.size w w1 from Below.trans (Below.alloc (Below.refl _ _) (Nat.le_refl _) _) (hb.mono (by simp)))
  clear hb
  cases even
  · go_wp2_with fail
    go_ret
    refine ⟨ret_bool (a := S != 0) ?_, HB.out⟩
    show (S != 0) = decide (windA kls kz ≠ 0)
    rw [← HSS.out]
    by_cases h : S = 0 <;> simp [h]
  · go_wp2_with fail
    go_ret
    refine ⟨ret_bool (a := S.tmod 2 != 0) ?_, HB.out⟩
    show (S.tmod 2 != 0) = decide (windA kls kz % 2 ≠ 0)
    rw [← HSS.out]
    have h2 : S.tmod 2 = 0 ↔ S % 2 = 0 := by
      rcases Int.lt_or_le S 0 with h | h
      · obtain ⟨m, hm⟩ : ∃ m : Nat, S = -(m : Int) := ⟨S.natAbs, by omega⟩
        subst hm
        rw [Int.neg_tmod]
        have : (m : Int).tmod 2 = (m : Int) % 2 := Int.tmod_eq_emod_of_nonneg (by omega)
        rw [this]; omega
      · rw [Int.tmod_eq_emod_of_nonneg h]
    by_cases h : S % 2 = 0
    · have h3 := h2.2 h
      rw [h3]; simp [h]
    · have h3 : S.tmod 2 ≠ 0 := fun q => h (h2.1 q)
      rw [bne_iff_ne.2 h3]; simp [h]
end Go.Proofs.Ytgghhnglnklmbaa

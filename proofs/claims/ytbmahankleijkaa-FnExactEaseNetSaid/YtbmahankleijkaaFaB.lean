/- Contracts: both functions FacetsAt. -/
import Derived.Test.YtbmahankleijkaaFaI
namespace Go.Proofs.Ytbmahankleijkaa
open Go.RowKit Go.Fl

theorem RetI.no {w w' : World} {xs : List Int} {ok : Bool} (h : xs = []) (hb : Below w.heap.size w w') : RetI xs ok w (.returned (.tuple #[.slice none 0 0, .bool ok])) w' := by
  subst h
  exact ⟨⟨none, 0, rfl, OwnI.nil _ _ _⟩, hb⟩
theorem RetI.yes {w w' : World} {xs : List Int} {e b cap : Nat} {ok : Bool} (h : ORow w' e 1 b cap xs.length (xs.map (Value.int .i64))) (hl : w.heap.size ≤ b) (hb : Below w.heap.size w w') : RetI xs ok w (.returned (.tuple #[.slice (some ⟨b, 0, none⟩) xs.length cap, .bool ok])) w' :=
  ⟨⟨_, cap, rfl, OwnI.row h rfl hl⟩, hb⟩

set_option maxHeartbeats 1000000 in
theorem facetsAtS (lo hi : Nat) (sa fa : Option Addr) (sc fc : Nat) (ps : List Sp) (fs : List (List Int)) (x : Int) (hp : ps.length ≤ 1048576) (hn : fs.length ≤ 1048576) (hsh : ∀ i, i < fs.length → (fAt fs i).length ≤ 1048576) (w : World)
    (hs : NetAt w lo hi sa fa ps fs) (hh : hi ≤ w.heap.size) :
    Calls Try.prog 13 #[netV sa fa ps.length sc fs.length fc, .int .i64 x] w (RetI (faL ps fs x) (faOk ps fs x) w) := by
  have A0 : OwnC (w.alloc (.cells #[.slice sa ps.length sc, .slice fa fs.length fc] 33)) w.heap.size #[.slice sa ps.length sc, .slice fa fs.length fc] 33 := OwnC.new rfl
  have IS := Lib.hid (l06Is lo hi w.heap.size sa fa sc fc ps fs hp hn hsh (w.alloc (.cells #[.slice sa ps.length sc, .slice fa fs.length fc] 33)) (A0.cell 0) (A0.cell 1) (hs.far ((Far.refl _ _ _).alloc _ hh)) (by simp; omega))
  have HS := Lib.hid hs
  have HSH := Lib.hid hsh
  have HA0 := Lib.hid A0
  clear hs hsh A0
  unfold netV
  have hr : ∀ v, RetI (faL ps fs x) (faOk ps fs x) w v = RetI (faL ps fs x) (faOk ps fs x) w v := fun _ => rfl
  cases hv : dec (OkNet ps fs (colA fs) (colB fs))
  · have HO : Hid (faOk ps fs x = false) := Lib.hid (by simp [faOk, hv])
    have HV := Lib.hid hv
    clear hv
    go_enter Try.func13, Try.ntmps13
    go_wp2_with (go_at_call 44; refine IS.out.mono ?_; rintro e w3 ⟨rfl, hb3⟩; rw [HV.out])
    go_ret2
    rw [HO.out]
    exact RetI.no (faL_no HO.out) (Below.trans (by (repeat (first | exact Below.refl _ _ | assumption | refine below_dr ?_ _ | refine Below.alloc ?_ (by first | omega | (simp; done) | (simp; omega)) _ | refine Below.setCell ?_ (by first | omega | (simp; done) | (simp; omega)) _ | refine Below.trans ?_ (Below.mono (by assumption) (by first | omega | (simp; done) | (simp; omega)))))) (hb3.mono (by simp)))
  · have HV := Lib.hid hv
    cases hi2 : inB x 0 ((ps.length : Int) - 1)
    · have HO : Hid (faOk ps fs x = false) := Lib.hid (by simp [faOk, hv, hi2])
      have HI := Lib.hid hi2
      clear hv hi2
      go_enter Try.func13, Try.ntmps13
      go_wp2_with (first | (go_at_call 44; refine IS.out.mono ?_; rintro e w3 ⟨rfl, hb3⟩; rw [HV.out]; have A1 := HA0.out.below hb3 (by first | omega | (simp; done) | (simp; omega)); have q0 := A1.cell 0; have q1 := A1.cell 1; simp at q0 q1) | (go_at_call 45; refine (l00In _ _ _ _).mono ?_; rintro e w3 ⟨rfl, rfl⟩; rw [HI.out]))
      go_ret2
      rw [HO.out]
      exact RetI.no (faL_no HO.out) (Below.trans (by (repeat (first | exact Below.refl _ _ | assumption | refine below_dr ?_ _ | refine Below.alloc ?_ (by first | omega | (simp; done) | (simp; omega)) _ | refine Below.setCell ?_ (by first | omega | (simp; done) | (simp; omega)) _ | refine Below.trans ?_ (Below.mono (by assumption) (by first | omega | (simp; done) | (simp; omega)))))) (hb3.mono (by simp)))
    · have HO : Hid (faOk ps fs x = true) := Lib.hid (by simp [faOk, hv, hi2])
      have HI := Lib.hid hi2
      have hok : OkNet ps fs (colA fs) (colB fs) := by
        by_cases h : OkNet ps fs (colA fs) (colB fs)
        · exact h
        · rw [dec_no h] at hv; cases hv
      have HEQ := Lib.hid (faTo_eq x hok.facets fs.length (Nat.le_refl _))
      clear hv hi2 hok
      go_enter Try.func13, Try.ntmps13
      go_wp2_with (first | (go_at_call 44; refine IS.out.mono ?_; rintro e w3 ⟨rfl, hb3⟩; rw [HV.out]; have A1 := HA0.out.below hb3 (by first | omega | (simp; done) | (simp; omega)); have q0 := A1.cell 0; have q1 := A1.cell 1; simp at q0 q1) | (go_at_call 45; refine (l00In _ _ _ _).mono ?_; rintro e w3 ⟨rfl, rfl⟩; rw [HI.out]) | (go_at_call 46; refine (l06FacetsAt lo hi w.heap.size sa fa ps.length sc fc fs x hn HSH.out _ q0 q1 (HS.out.facets.far (((Far.refl _ _ _).alloc _ hh).trans (Far.below hb3 (by first | omega | (simp; done) | (simp; omega))))) (by have := hb3.size; simp at this; omega)).mono ?_; rintro e w4 ⟨b, cap, rfl, hr4, hl4, hb4⟩; rw [HEQ.out] at hr4 ⊢))
      go_ret2
      rw [HO.out, faL_yes HO.out]
      have z3 := hb3.size
      simp at z3
      exact RetI.yes hr4 (by omega) (Below.trans (Below.trans (by (repeat (first | exact Below.refl _ _ | assumption | refine below_dr ?_ _ | refine Below.alloc ?_ (by first | omega | (simp; done) | (simp; omega)) _ | refine Below.setCell ?_ (by first | omega | (simp; done) | (simp; omega)) _ | refine Below.trans ?_ (Below.mono (by assumption) (by first | omega | (simp; done) | (simp; omega)))))) (hb3.mono (by simp))) (hb4.mono (by omega)))

set_option maxHeartbeats 1000000 in
theorem facetsAtB (lo hi : Nat) (sa fa : Option Addr) (sc fc : Nat) (ps : List Sp) (fs : List (List Int)) (x : Int) (hp : ps.length ≤ 1048576) (hn : fs.length ≤ 1048576) (hsh : ∀ i, i < fs.length → (fAt fs i).length ≤ 1048576) (w : World)
    (hs : NetAt w lo hi sa fa ps fs) (hca : SlC w lo hi fa fs) (hh : hi ≤ w.heap.size) :
    Calls Try.prog 15 #[netV sa fa ps.length sc fs.length fc, .int .i64 x] w (RetI (faL ps fs x) (faOk ps fs x) w) := by
  have A0 : OwnC (w.alloc (.cells #[.slice sa ps.length sc, .slice fa fs.length fc] 33)) w.heap.size #[.slice sa ps.length sc, .slice fa fs.length fc] 33 := OwnC.new rfl
  have IS := Lib.hid (validNet lo hi sa fa sc fc ps fs hp hn hsh (w.alloc (.cells #[.slice sa ps.length sc, .slice fa fs.length fc] 33)) (hs.far ((Far.refl _ _ _).alloc _ hh)) (hca.far ((Far.refl _ _ _).alloc _ hh)) (by simp; omega))
  have HS := Lib.hid hs
  have HSH := Lib.hid hsh
  have HA0 := Lib.hid A0
  clear hs hsh A0 hca
  unfold netV at *
  cases hv : dec (OkNet ps fs (colA fs) (colB fs))
  · have HO : Hid (faOk ps fs x = false) := Lib.hid (by simp [faOk, hv])
    have HV := Lib.hid hv
    clear hv
    go_enter Try.func15, Try.ntmps15
    go_wp2_with (go_at_call 49; refine IS.out.mono ?_; rintro e w3 ⟨rfl, hb3⟩; rw [HV.out])
    go_ret2
    rw [HO.out]
    exact RetI.no (faL_no HO.out) (Below.trans (by (repeat (first | exact Below.refl _ _ | assumption | refine below_dr ?_ _ | refine Below.alloc ?_ (by first | omega | (simp; done) | (simp; omega)) _ | refine Below.setCell ?_ (by first | omega | (simp; done) | (simp; omega)) _ | refine Below.trans ?_ (Below.mono (by assumption) (by first | omega | (simp; done) | (simp; omega)))))) (hb3.mono (by simp)))
  · have HV := Lib.hid hv
    cases hi2 : inB x 0 ((ps.length : Int) - 1)
    · have HO : Hid (faOk ps fs x = false) := Lib.hid (by simp [faOk, hv, hi2])
      have HI := Lib.hid hi2
      clear hv hi2
      go_enter Try.func15, Try.ntmps15
      go_wp2_with (first | (go_at_call 49; refine IS.out.mono ?_; rintro e w3 ⟨rfl, hb3⟩; rw [HV.out]; have A1 := HA0.out.below hb3 (by first | omega | (simp; done) | (simp; omega)); have q0 := A1.cell 0; have q1 := A1.cell 1; simp at q0 q1) | (go_at_call 50; refine (within _ _ _ _).mono ?_; rintro e w3 ⟨rfl, rfl⟩; rw [HI.out]))
      go_ret2
      rw [HO.out]
      exact RetI.no (faL_no HO.out) (Below.trans (by (repeat (first | exact Below.refl _ _ | assumption | refine below_dr ?_ _ | refine Below.alloc ?_ (by first | omega | (simp; done) | (simp; omega)) _ | refine Below.setCell ?_ (by first | omega | (simp; done) | (simp; omega)) _ | refine Below.trans ?_ (Below.mono (by assumption) (by first | omega | (simp; done) | (simp; omega)))))) (hb3.mono (by simp)))
    · have HO : Hid (faOk ps fs x = true) := Lib.hid (by simp [faOk, hv, hi2])
      have HI := Lib.hid hi2
      clear hv hi2
      go_enter Try.func15, Try.ntmps15
      go_wp2_with (first | (go_at_call 49; refine IS.out.mono ?_; rintro e w3 ⟨rfl, hb3⟩; rw [HV.out]; have A1 := HA0.out.below hb3 (by first | omega | (simp; done) | (simp; omega)); have q0 := A1.cell 0; have q1 := A1.cell 1; simp at q0 q1) | (go_at_call 50; refine (within _ _ _ _).mono ?_; rintro e w3 ⟨rfl, rfl⟩; rw [HI.out]) | (go_at_call 51; refine (facetsAtI lo hi sa fa ps.length sc fc fs x hn HSH.out _ (HS.out.facets.far (((Far.refl _ _ _).alloc _ hh).trans (Far.below hb3 (by first | omega | (simp; done) | (simp; omega))))) (by have := hb3.size; simp at this; omega)).mono ?_; rintro e w4 ⟨b, cap, rfl, hr4, hl4, hb4⟩))
      go_ret2
      rw [HO.out, faL_yes HO.out]
      have z3 := hb3.size
      simp at z3
      exact RetI.yes hr4 (by omega) (Below.trans (Below.trans (by (repeat (first | exact Below.refl _ _ | assumption | refine below_dr ?_ _ | refine Below.alloc ?_ (by first | omega | (simp; done) | (simp; omega)) _ | refine Below.setCell ?_ (by first | omega | (simp; done) | (simp; omega)) _ | refine Below.trans ?_ (Below.mono (by assumption) (by first | omega | (simp; done) | (simp; omega)))))) (hb3.mono (by simp))) (hb4.mono (by omega)))
end Go.Proofs.Ytbmahankleijkaa

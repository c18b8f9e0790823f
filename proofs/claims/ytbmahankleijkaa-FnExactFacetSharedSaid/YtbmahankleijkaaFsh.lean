/- Contracts: FacetShared, the program's and the reference's. -/
import Derived.Test.YtbmahankleijkaaFpS
import Derived.Test.YtbmahankleijkaaMkS
import Derived.Test.YtbmahankleijkaaPrB
namespace Go.Proofs.Ytbmahankleijkaa
open Go.RowKit Go.Fl

set_option maxHeartbeats 2000000 in
set_option maxRecDepth 100000 in
theorem l06Middles (lo hi pb : Nat) (sa fa : Option Addr) (sc fc : Nat) (ps : List Sp) (fs : List (List Int)) (hp : ps.length ≤ 1048576) (hn : fs.length ≤ 1048576) (hsh : ∀ i, i < fs.length → (fAt fs i).length ≤ 1048576) (hin : ∀ i, i < fs.length → InN ps.length (fAt fs i)) (w : World)
    (p0 : w.cell? ⟨pb, 0, none⟩ = some (.slice sa ps.length sc)) (p1 : w.cell? ⟨pb, 1, none⟩ = some (.slice fa fs.length fc)) (hs : NetAt w lo hi sa fa ps fs) (hh : hi ≤ w.heap.size) :
    Calls Try.prog 56 #[.pointer (some ⟨pb, 0, none⟩)] w fun e w' => (∃ b cap cs, e = .returned (.slice (some ⟨b, 0, none⟩) fs.length cap) ∧ ORow w' 79 3 b cap fs.length cs ∧ SpL cs (midsTo ps fs fs.length) ∧ w.heap.size ≤ b) ∧ Below w.heap.size w w' := by
  have HS := Lib.hid hs
  have HSH := Lib.hid hsh
  have HI := Lib.hid hin
  have P0 := Lib.hid p0
  have P1 := Lib.hid p1
  clear hs hsh hin p0 p1
  go_enter Try.func56, Try.ntmps56
  go_wp2_with fail
  go_loopw [3, 4] (fun out i wr => ∃ (j b cap : Nat) (cs : List Value), j ≤ fs.length ∧ i = .int .i64 j ∧ out = .slice (some ⟨b, 0, none⟩) j cap ∧ Hid (ORow wr 79 3 b cap j cs) ∧ Hid (SpL cs (midsTo ps fs j)) ∧ w.heap.size ≤ b ∧ Hid (Below w.heap.size w wr)) (fun _ i _ => fs.length - (intOf i).toNat)
  case atStart => exact ⟨0, _, _, [], by omega, rfl, rfl, ORow.new w _ _, Lib.hid (by simpa [midsTo] using SpL.nil), Nat.le_refl _, Below.alloc (Below.refl _ _) (Nat.le_refl _) _⟩
  case round =>
    obtain ⟨j, b, cap, cs, hj, rfl, rfl, HR, HSP, hbb, HW⟩ := hrel
    have a1 := keep_cell HW.out P1.out
    by_cases hlt : j < fs.length
    · have k0 : (0 : Int) ≤ (j : Int) := by omega
      have k1 : (j : Int) < (fs.length : Int) := by omega
      have hlj := HSH.out j hlt
      have hij := HI.out j hlt
      have hz := HW.out.size
      have hrl := HR.out.lt
      have HC := Lib.hid (l06Middle lo hi pb sa fa sc fc j ps fs hp hlt hn hlj hij wr (keep_cell HW.out P0.out) (keep_cell HW.out P1.out) (HS.out.far (Far.below HW.out hh)) (by omega))
      clear hij
      go_wp2_with (first | (go_at_call 111; refine HC.out.mono ?_; rintro e w3 ⟨⟨x, y, z, rfl, hab⟩, hb3⟩; have HAB := Lib.hid hab; have HR3 := Lib.hid (HR.out.below hb3 hrl); have HW3 := Lib.hid (HW.out.trans (hb3.mono hz)); have hz3 := hb3.size; clear hab hb3) | (at_builtin; refine wpList_app rfl _ _ _ rfl 79 (.agg #[.float .f32 0, .float .f32 0, .float .f32 0]) 3 12 Try.underlying30 infoSpot' rfl (by decide) _ #[.float .f32 x, .float .f32 y, .float .f32 z] 79 rfl (by simp [Value.oneCell']) b cap _ _ rfl rfl HR3.out (by omega) (by decide) ?_; intro b5 cap5 w5 hr5 hg5 hgr5))
      have hz5 := HW3.out.size
      go_roundw
      case rel =>
        refine ⟨j + 1, b5, cap5, _, by omega, by go_num, rfl, Lib.hid hr5, ?_, by omega, Lib.hid (HW3.out.trans (hgr5.below (by omega) hz5))⟩
        show SpL _ _
        rw [midsTo_succ]
        refine HSP.out.snoc ?_ HAB.out
        rw [HR.out.clen, midsTo_len]
      case measure => simp [intOf]; omega
    · have hjn : j = fs.length := by omega
      subst hjn
      go_wp2_with fail
      go_ret
      exact ⟨⟨b, cap, cs, rfl, HR.out, HSP.out, hbb⟩, HW.out⟩

theorem areWorkers (x : Int) (w : World) : Calls Try.prog 58 #[.int .i64 x] w fun e w' => e = .returned (.bool (inB x 1 8)) ∧ w' = w := by
  go_enter Try.func58, Try.ntmps58
  go_wp2_with fail
  refine (within _ _ _ _).mono ?_
  rintro e w' ⟨rfl, rfl⟩
  go_wp2_with fail
  go_ret
  exact ⟨rfl, rfl⟩

noncomputable def shOk (ps : List Sp) (fs : List (List Int)) (x : Int) : Bool := okN ps fs && inB x 1 8 && (midsTo ps fs fs.length).all finSp
noncomputable def shL (ps : List Sp) (fs : List (List Int)) (x : Int) : List Sp := if shOk ps fs x then midsTo ps fs fs.length else []
theorem shL_no {ps : List Sp} {fs : List (List Int)} {x : Int} (h : shOk ps fs x = false) : shL ps fs x = [] := by simp [shL, h]
theorem shL_yes {ps : List Sp} {fs : List (List Int)} {x : Int} (h : shOk ps fs x = true) : shL ps fs x = midsTo ps fs fs.length := by simp [shL, h]
theorem shL_len {ps : List Sp} {fs : List (List Int)} {x : Int} (hn : fs.length ≤ 1048576) : (shL ps fs x).length ≤ 1048576 := by
  unfold shL
  split
  · rw [midsTo_len]; exact hn
  · simp
theorem RetP.no {w w' : World} {ps : List Sp} {ok : Bool} (h : ps = []) (hb : Below w.heap.size w w') : RetP ps ok w (.returned (.tuple #[.slice none 0 0, .bool ok])) w' := by
  subst h
  exact ⟨⟨none, 0, rfl, OwnP.nil _ _ _⟩, hb⟩
theorem RetP.yes {w w' : World} {ps : List Sp} {e b cap n : Nat} {cs : List Value} {ok : Bool} (h : ORow w' e 3 b cap n cs) (hn : ps.length = n) (hq : SpL cs ps) (hl : w.heap.size ≤ b) (hb : Below w.heap.size w w') : RetP ps ok w (.returned (.tuple #[.slice (some ⟨b, 0, none⟩) n cap, .bool ok])) w' := by
  subst hn
  exact ⟨⟨_, cap, rfl, ⟨.inr ⟨b, rfl, hl, h.lt, h.room, h.spots hq⟩⟩⟩, hb⟩
theorem spotsS (b cap n : Nat) (ps : List Sp) (cs : List Value) (e : TypeId) (hn : ps.length = n) (hm : n ≤ 1048576) (w : World) (h : ORow w e 3 b cap n cs) (hq : SpL cs ps) :
    Calls Try.prog 57 #[.slice (some ⟨b, 0, none⟩) n cap] w fun e w' => e = .returned (.bool (ps.all finSp)) ∧ Below w.heap.size w w' := by
  subst hn
  exact l04Spots b (b + 1) _ cap ps hm w (h.spots hq) h.lt
theorem spotsB (b cap n : Nat) (ps : List Sp) (cs : List Value) (e : TypeId) (hn : ps.length = n) (hm : n ≤ 1048576) (w : World) (h : ORow w e 3 b cap n cs) (hq : SpL cs ps) :
    Calls Try.prog 104 #[.slice (some ⟨b, 0, none⟩) n cap] w fun e w' => e = .returned (.bool (ps.all finSp)) ∧ Below w.heap.size w w' := by
  subst hn
  exact areSpots b (b + 1) _ cap ps hm w (h.spots hq) h.lt
theorem ifSpots (b cap n : Nat) (ps : List Sp) (cs : List Value) (e : TypeId) (hn : ps.length = n) (hm : n ≤ 1048576) (w : World) (h : ORow w e 3 b cap n cs) (hq : SpL cs ps) :
    Calls Try.prog 59 #[.slice (some ⟨b, 0, none⟩) n cap] w fun e w' => e = .returned (.tuple #[if ps.all finSp then .slice (some ⟨b, 0, none⟩) n cap else .slice none 0 0, .bool (ps.all finSp)]) ∧ Below w.heap.size w w' := by
  have HC := Lib.hid (spotsB b cap n ps cs e hn hm w h hq)
  clear h hq
  cases hf : ps.all finSp
  all_goals
    have HF := Lib.hid hf
    clear hf
    go_enter Try.func59, Try.ntmps59
    go_wp2_with (go_at_call 104; refine HC.out.mono ?_; rintro e w3 ⟨rfl, hb3⟩; rw [HF.out])
    go_ret2
    exact ⟨rfl, hb3⟩

set_option maxHeartbeats 2000000 in
set_option maxRecDepth 100000 in
theorem sharedS (lo hi : Nat) (sa fa : Option Addr) (sc fc : Nat) (ps : List Sp) (fs : List (List Int)) (x : Int) (hp : ps.length ≤ 1048576) (hn : fs.length ≤ 1048576) (hsh : ∀ i, i < fs.length → (fAt fs i).length ≤ 1048576) (w : World)
    (hs : NetAt w lo hi sa fa ps fs) (hh : hi ≤ w.heap.size) :
    Calls Try.prog 25 #[netV sa fa ps.length sc fs.length fc, .int .i64 x] w (RetP (shL ps fs x) (shOk ps fs x) w) := by
  have A0 : OwnC (w.alloc (.cells #[.slice sa ps.length sc, .slice fa fs.length fc] 33)) w.heap.size #[.slice sa ps.length sc, .slice fa fs.length fc] 33 := OwnC.new rfl
  have IS := Lib.hid (l06Is lo hi w.heap.size sa fa sc fc ps fs hp hn hsh (w.alloc (.cells #[.slice sa ps.length sc, .slice fa fs.length fc] 33)) (A0.cell 0) (A0.cell 1) (hs.far ((Far.refl _ _ _).alloc _ hh)) (by simp; omega))
  have HS := Lib.hid hs
  have HSH := Lib.hid hsh
  have HA0 := Lib.hid A0
  clear hs hsh A0
  unfold netV
  cases hv : okN ps fs
  · have HO : Hid (shOk ps fs x = false) := Lib.hid (by simp [shOk, hv])
    have HV : Hid (dec (OkNet ps fs (colA fs) (colB fs)) = false) := Lib.hid hv
    clear hv
    go_enter Try.func25, Try.ntmps25
    go_wp2_with (go_at_call 44; refine IS.out.mono ?_; rintro e w3 ⟨rfl, hb3⟩; rw [HV.out])
    go_ret2
    rw [HO.out]
    exact RetP.no (shL_no HO.out) (Below.trans (by (repeat (first | exact Below.refl _ _ | assumption | refine below_dr ?_ _ | refine Below.alloc ?_ (by first | omega | (simp; done) | (simp; omega)) _ | refine Below.setCell ?_ (by first | omega | (simp; done) | (simp; omega)) _ | refine Below.trans ?_ (Below.mono (by assumption) (by first | omega | (simp; done) | (simp; omega)))))) (hb3.mono (by simp)))
  have HV : Hid (dec (OkNet ps fs (colA fs) (colB fs)) = true) := Lib.hid hv
  cases hi2 : inB x 1 8
  · have HO : Hid (shOk ps fs x = false) := Lib.hid (by simp [shOk, hi2])
    have HI2 := Lib.hid hi2
    clear hv hi2
    go_enter Try.func25, Try.ntmps25
    go_wp2_with (first | (go_at_call 44; refine IS.out.mono ?_; rintro e w3 ⟨rfl, hb3⟩; rw [HV.out]) | (go_at_call 45; refine (l00In _ _ _ _).mono ?_; rintro e w3 ⟨rfl, rfl⟩; rw [HI2.out]))
    go_ret2
    rw [HO.out]
    exact RetP.no (shL_no HO.out) (Below.trans (by (repeat (first | exact Below.refl _ _ | assumption | refine below_dr ?_ _ | refine Below.alloc ?_ (by first | omega | (simp; done) | (simp; omega)) _ | refine Below.setCell ?_ (by first | omega | (simp; done) | (simp; omega)) _ | refine Below.trans ?_ (Below.mono (by assumption) (by first | omega | (simp; done) | (simp; omega)))))) (hb3.mono (by simp)))
  have HI2 := Lib.hid hi2
  have HIN : Hid (∀ i, i < fs.length → InN ps.length (fAt fs i)) := fun i h => ((okN_net hv).facets i h).inN
  have hE : shOk ps fs x = (midsTo ps fs fs.length).all finSp := by simp [shOk, hv, hi2]
  have HML := Lib.hid (midsTo_len ps fs fs.length)
  clear hv hi2
  cases hf : (midsTo ps fs fs.length).all finSp
  all_goals
    have HO := Lib.hid (hE.trans hf)
    have HF := Lib.hid hf
    clear hE hf
    go_enter Try.func25, Try.ntmps25
    go_wp2_with (first | (go_at_call 44; refine IS.out.mono ?_; rintro e w3 ⟨rfl, hb3⟩; rw [HV.out]; have A1 := HA0.out.below hb3 (by first | omega | (simp; done) | (simp; omega)); have z3 := hb3.size; simp at z3; have HB3 : Hid (Below w.heap.size w w3) := Below.trans (by (repeat (first | exact Below.refl _ _ | assumption | refine below_dr ?_ _ | refine Below.alloc ?_ (by first | omega | (simp; done) | (simp; omega)) _ | refine Below.setCell ?_ (by first | omega | (simp; done) | (simp; omega)) _ | refine Below.trans ?_ (Below.mono (by assumption) (by first | omega | (simp; done) | (simp; omega)))))) (hb3.mono (by simp)); have HC := Lib.hid (l06Middles lo hi w.heap.size sa fa sc fc ps fs hp hn HSH.out HIN.out w3 (A1.cell 0) (A1.cell 1) (HS.out.far (Far.below HB3.out hh)) (by omega)); clear A1 hb3) | (go_at_call 45; refine (l00In _ _ _ _).mono ?_; rintro e w3 ⟨rfl, rfl⟩; rw [HI2.out]) | (go_at_call 56; refine HC.out.mono ?_; rintro e w4 ⟨⟨b, cap, cs, rfl, hr4, hq4, hl4⟩, hb4⟩; have HR4 := Lib.hid hr4; have HQ4 := Lib.hid hq4; have HB4 := Lib.hid (HB3.out.trans (hb4.mono (by omega))); have hlt4 := hr4.lt; have HC5 := Lib.hid (spotsS b cap fs.length _ cs _ HML.out hn w4 hr4 hq4); clear hr4 hq4 hb4) | (go_at_call 57; refine HC5.out.mono ?_; rintro e w5 ⟨rfl, hb5⟩; rw [HF.out]))
    go_ret2
  · rw [HO.out]
    exact RetP.no (shL_no HO.out) (HB4.out.trans (hb5.mono HB4.out.size))
  · rw [HO.out]
    exact RetP.yes (HR4.out.below hb5 hlt4) (by rw [shL_yes HO.out]; exact HML.out) (by rw [shL_yes HO.out]; exact HQ4.out) (by omega) (HB4.out.trans (hb5.mono HB4.out.size))

set_option maxHeartbeats 2000000 in
set_option maxRecDepth 100000 in
theorem sharedB (lo hi : Nat) (sa fa : Option Addr) (sc fc : Nat) (ps : List Sp) (fs : List (List Int)) (x : Int) (hp : ps.length ≤ 1048576) (hn : fs.length ≤ 1048576) (hsh : ∀ i, i < fs.length → (fAt fs i).length ≤ 1048576) (w : World)
    (hs : NetAt w lo hi sa fa ps fs) (hca : SlC w lo hi fa fs) (hh : hi ≤ w.heap.size) :
    Calls Try.prog 26 #[netV sa fa ps.length sc fs.length fc, .int .i64 x] w (RetP (shL ps fs x) (shOk ps fs x) w) := by
  have A0 : OwnC (w.alloc (.cells #[.slice sa ps.length sc, .slice fa fs.length fc] 33)) w.heap.size #[.slice sa ps.length sc, .slice fa fs.length fc] 33 := OwnC.new rfl
  have IS := Lib.hid (validNet lo hi sa fa sc fc ps fs hp hn hsh (w.alloc (.cells #[.slice sa ps.length sc, .slice fa fs.length fc] 33)) (hs.far ((Far.refl _ _ _).alloc _ hh)) (hca.far ((Far.refl _ _ _).alloc _ hh)) (by simp; omega))
  have HS := Lib.hid hs
  have HSH := Lib.hid hsh
  have HA0 := Lib.hid A0
  clear hs hsh A0 hca
  unfold netV at *
  cases hv : okN ps fs
  · have HO : Hid (shOk ps fs x = false) := Lib.hid (by simp [shOk, hv])
    have HV : Hid (dec (OkNet ps fs (colA fs) (colB fs)) = false) := Lib.hid hv
    clear hv
    go_enter Try.func26, Try.ntmps26
    go_wp2_with (go_at_call 49; refine IS.out.mono ?_; rintro e w3 ⟨rfl, hb3⟩; rw [HV.out])
    go_ret2
    rw [HO.out]
    exact RetP.no (shL_no HO.out) (Below.trans (by (repeat (first | exact Below.refl _ _ | assumption | refine below_dr ?_ _ | refine Below.alloc ?_ (by first | omega | (simp; done) | (simp; omega)) _ | refine Below.setCell ?_ (by first | omega | (simp; done) | (simp; omega)) _ | refine Below.trans ?_ (Below.mono (by assumption) (by first | omega | (simp; done) | (simp; omega)))))) (hb3.mono (by simp)))
  have HV : Hid (dec (OkNet ps fs (colA fs) (colB fs)) = true) := Lib.hid hv
  cases hi2 : inB x 1 8
  · have HO : Hid (shOk ps fs x = false) := Lib.hid (by simp [shOk, hi2])
    have HI2 := Lib.hid hi2
    clear hv hi2
    go_enter Try.func26, Try.ntmps26
    go_wp2_with (first | (go_at_call 49; refine IS.out.mono ?_; rintro e w3 ⟨rfl, hb3⟩; rw [HV.out]) | (go_at_call 58; refine (areWorkers _ _).mono ?_; rintro e w3 ⟨rfl, rfl⟩; rw [HI2.out]))
    go_ret2
    rw [HO.out]
    exact RetP.no (shL_no HO.out) (Below.trans (by (repeat (first | exact Below.refl _ _ | assumption | refine below_dr ?_ _ | refine Below.alloc ?_ (by first | omega | (simp; done) | (simp; omega)) _ | refine Below.setCell ?_ (by first | omega | (simp; done) | (simp; omega)) _ | refine Below.trans ?_ (Below.mono (by assumption) (by first | omega | (simp; done) | (simp; omega)))))) (hb3.mono (by simp)))
  have HI2 := Lib.hid hi2
  have HIN : Hid (∀ i, i < fs.length → InN ps.length (fAt fs i)) := fun i h => ((okN_net hv).facets i h).inN
  have hE : shOk ps fs x = (midsTo ps fs fs.length).all finSp := by simp [shOk, hv, hi2]
  have HML := Lib.hid (midsTo_len ps fs fs.length)
  clear hv hi2
  cases hf : (midsTo ps fs fs.length).all finSp
  all_goals
    have HO := Lib.hid (hE.trans hf)
    have HF := Lib.hid hf
    clear hE hf
    go_enter Try.func26, Try.ntmps26
    go_wp2_with (first | (go_at_call 49; refine IS.out.mono ?_; rintro e w3 ⟨rfl, hb3⟩; rw [HV.out]; have A1 := HA0.out.below hb3 (by first | omega | (simp; done) | (simp; omega)); have z3 := hb3.size; simp at z3; have HB3 : Hid (Below w.heap.size w w3) := Below.trans (by (repeat (first | exact Below.refl _ _ | assumption | refine below_dr ?_ _ | refine Below.alloc ?_ (by first | omega | (simp; done) | (simp; omega)) _ | refine Below.setCell ?_ (by first | omega | (simp; done) | (simp; omega)) _ | refine Below.trans ?_ (Below.mono (by assumption) (by first | omega | (simp; done) | (simp; omega)))))) (hb3.mono (by simp)); have q0 := A1.cell 0; have q1 := A1.cell 1; simp at q0 q1; have HC := Lib.hid (facetPoints lo hi sa fa sc fc ps fs hp hn HSH.out HIN.out w3 (HS.out.far (Far.below HB3.out hh)) (by omega)); clear A1 hb3) | (go_at_call 58; refine (areWorkers _ _).mono ?_; rintro e w3 ⟨rfl, rfl⟩; rw [HI2.out]) | (go_at_call 60; refine HC.out.mono ?_; rintro e w4 ⟨⟨b, cap, cs, rfl, hr4, hq4, hl4⟩, hb4⟩; have HR4 := Lib.hid hr4; have HQ4 := Lib.hid hq4; have HB4 := Lib.hid (HB3.out.trans (hb4.mono (by omega))); have hlt4 := hr4.lt; have HC5 := Lib.hid (ifSpots b cap fs.length _ cs _ HML.out hn w4 hr4 hq4); clear hr4 hq4 hb4) | (go_at_call 59; refine HC5.out.mono ?_; rintro e w5 ⟨rfl, hb5⟩; rw [HF.out]; simp only [if_true, Bool.false_eq_true, if_false]))
    go_ret2
  · rw [HO.out]
    exact RetP.no (shL_no HO.out) (HB4.out.trans (hb5.mono HB4.out.size))
  · rw [HO.out]
    exact RetP.yes (HR4.out.below hb5 hlt4) (by rw [shL_yes HO.out]; exact HML.out) (by rw [shL_yes HO.out]; exact HQ4.out) (by omega) (HB4.out.trans (hb5.mono HB4.out.size))
end Go.Proofs.Ytbmahankleijkaa

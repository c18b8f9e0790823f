/- Contract: the edges of a net, the program's. Contracts: both functions FacetsAt. Contracts: the pairs of corners of all edges or borders, the reference's. -/
import Derived.Test.YtkjljajjjhfklaaNj10
import Derived.Test.YtkjljajjjhfklaaNj06
import Derived.Test.YtkjljajjjhfklaaNj08
namespace Go.Fl
/-- the column of facets -/
abbrev colF (fs : List (List Int)) : List Int := colTo sideF fs fs.length
theorem iAt_ne {n : Nat} {f : List Int} (h : FGood n f f.length) {i j : Nat} (hi : i < f.length) (hj : j < f.length) (hne : i ≠ j) : iAt f i ≠ iAt f j := by
  rcases Nat.lt_or_gt_of_ne hne with h1 | h1
  · exact (h j hj).2 i h1
  · exact fun e => (h i hi).2 j h1 e.symm
/-- the two corners of a side differ -/
theorem side_ne {n : Nat} {f : List Int} (h : OkF n f) {k : Nat} (hk : k < f.length) : iAt f k ≠ iAt f ((k + 1) % f.length) := by
  refine iAt_ne h.2.2 hk (Nat.mod_lt _ (by omega)) ?_
  have h3 := h.1
  by_cases hl : k + 1 < f.length
  · rw [Nat.mod_eq_of_lt hl]; omega
  · have : k + 1 = f.length := by omega
    rw [this, Nat.mod_self]; omega
end Go.Fl
namespace Go.Proofs.Ytkjljajjjhfklaa
open Go.RowKit Go.Fl

/-- what is known of the sides of a valid net -/
structure SideOk (fs : List (List Int)) : Prop where
  once : Once (colA fs) (colB fs) (sumTo fs fs.length)
  ne : ∀ t, t < sumTo fs fs.length → iAt (colA fs) t ≠ iAt (colB fs) t
  inA : ∀ t, t < sumTo fs fs.length → In64 (iAt (colA fs) t)
  inB : ∀ t, t < sumTo fs fs.length → In64 (iAt (colB fs) t)
  posF : ∀ t, t < sumTo fs fs.length → 0 ≤ iAt (colF fs) t
  few : sumTo fs fs.length ≤ 268435456
theorem OkNet.sideOk {ps : List Sp} {fs : List (List Int)} (h : OkNet ps fs (colA fs) (colB fs)) : SideOk fs where
  once := by
    have := h.once
    rw [show (colA fs).length = sumTo fs fs.length from colTo_len _ _ _] at this
    exact this
  ne := fun t ht => by
    obtain ⟨j, k, h1, h2, rfl⟩ := colTo_of (sideA fs) fs fs.length t ht
    rw [(colTo_at (sideA fs) fs fs.length j k h1 h2).2, (colTo_at (sideB fs) fs fs.length j k h1 h2).2]
    exact side_ne (h.facets j h1) h2
  inA := fun t ht => by
    obtain ⟨j, k, h1, h2, rfl⟩ := colTo_of (sideA fs) fs fs.length t ht
    rw [(colTo_at (sideA fs) fs fs.length j k h1 h2).2]
    exact side_in h.n256 (h.facets j h1) h2
  inB := fun t ht => by
    obtain ⟨j, k, h1, h2, rfl⟩ := colTo_of (sideA fs) fs fs.length t ht
    rw [(colTo_at (sideB fs) fs fs.length j k h1 h2).2]
    exact side_in h.n256 (h.facets j h1) (Nat.mod_lt _ (by omega))
  posF := fun t ht => by
    obtain ⟨j, k, h1, h2, rfl⟩ := colTo_of (sideA fs) fs fs.length t ht
    rw [(colTo_at sideF fs fs.length j k h1 h2).2]
    show (0 : Int) ≤ (j : Int)
    omega
  few := by
    have h1 := sumTo_le (fs := fs) (fun i hi => by have := (h.facets i hi).2.1; omega) fs.length (Nat.le_refl _)
    have := h.f256
    omega

theorem firsts_lenA (fs : List (List Int)) : (firsts (colA fs) (colB fs) (sumTo fs fs.length)).length ≤ sumTo fs fs.length := firsts_len _ _ _

set_option maxHeartbeats 2000000 in
set_option maxRecDepth 100000 in
theorem edgesI (lo hi : Nat) (sa fa : Option Addr) (pn sc fc : Nat) (fs : List (List Int)) (hn : fs.length ≤ 1048576) (hsh : ∀ i, i < fs.length → (fAt fs i).length ≤ 1048576) (hok : SideOk fs) (w : World) (hs : SlN w lo hi fa fs) (hh : hi ≤ w.heap.size) :
    Calls Try.prog 27 #[netV sa fa pn sc fs.length fc] w fun e w' => ∃ b cap, e = .returned (.slice (some ⟨b, 0, none⟩) (firsts (colA fs) (colB fs) (sumTo fs fs.length)).length cap) ∧
      ORow w' 64 4 b cap (firsts (colA fs) (colB fs) (sumTo fs fs.length)).length ((edL (colA fs) (colB fs) (colF fs) (sumTo fs fs.length)).map (Value.int .i64)) ∧ w.heap.size ≤ b ∧ Below w.heap.size w w' := by
  have HS := Lib.hid hs
  have HSH := Lib.hid hsh
  have HK := Lib.hid hok
  clear hs hsh hok
  unfold netV
  have hmm := @run_makeMap Try.prog
  have A3 := ((((OwnC.new (w := w) (cs := #[.slice sa pn sc, .slice fa fs.length fc]) (T := 27) rfl).alloc (.cells #[] 64)).alloc (.cells #[.slice (some ⟨w.heap.size + 1, 0, none⟩) 0 0] 61)).alloc (.map #[] 0)).alloc (.cells #[.map (some (w.heap.size + 1 + 1 + 1))] 114)
  have HB3 : Hid (Below w.heap.size w (((((w.alloc (.cells #[.slice sa pn sc, .slice fa fs.length fc] 27)).alloc (.cells #[] 64)).alloc (.cells #[.slice (some ⟨w.heap.size + 1, 0, none⟩) 0 0] 61)).alloc (.map #[] 0)).alloc (.cells #[.map (some (w.heap.size + 1 + 1 + 1))] 114))) := by
    show Below _ _ _
    exact (((((Below.refl _ _).alloc (Nat.le_refl _) _).alloc (by simp) _).alloc (by simp; omega) _).alloc (by simp; omega) _).alloc (by simp; omega) _
  have q0 := A3.cell 0
  have q1 := A3.cell 1
  simp at q0 q1
  have HV3 : Hid (EJ (w.heap.size + 1 + 1 + 1 + 1) (w.heap.size + 1 + 1 + 1) (w.heap.size + 1 + 1) (colA fs) (colB fs) (colF fs) 0 (fun b => b = w.heap.size + 1 + 1 + 1 + 1 ∨ b = w.heap.size + 1 + 1 + 1 ∨ b = w.heap.size + 1 + 1 ∨ b = w.heap.size + 1)
      (((((w.alloc (.cells #[.slice sa pn sc, .slice fa fs.length fc] 27)).alloc (.cells #[] 64)).alloc (.cells #[.slice (some ⟨w.heap.size + 1, 0, none⟩) 0 0] 61)).alloc (.map #[] 0)).alloc (.cells #[.map (some (w.heap.size + 1 + 1 + 1))] 114))) := by
    refine ⟨⟨w.heap.size + 1, 0, fun b => Iff.rfl, ?_, ?_, by omega⟩, ?_, ?_, by omega⟩
    · exact ((OwnC.new (by simp)).alloc _).alloc _
    · have := ORow.new (w.alloc (.cells #[.slice sa pn sc, .slice fa fs.length fc] 27)) 64 4
      simp only [World.size_alloc] at this
      exact this.far (lo := w.heap.size + 1) (hi := w.heap.size + 1 + 1) ((((Far.refl _ _ _).alloc _ (by simp)).alloc _ (by simp)).alloc _ (by simp)) (Nat.le_refl _) (Nat.lt_succ_self _)
    · exact OwnC.new (by simp)
    · have := OMap.made (((w.alloc (.cells #[.slice sa pn sc, .slice fa fs.length fc] 27)).alloc (.cells #[] 64)).alloc (.cells #[.slice (some ⟨w.heap.size + 1, 0, none⟩) 0 0] 61))
      simp only [World.size_alloc] at this
      exact (this.of_block (Below.heap_alloc _ _ _ (by simp))).congr fun x y => rfl
  have HST : Hid (∀ j k P w1, j < fs.length → k < (fAt fs j).length → EJ (w.heap.size + 1 + 1 + 1 + 1) (w.heap.size + 1 + 1 + 1) (w.heap.size + 1 + 1) (colA fs) (colB fs) (colF fs) (sumTo fs j + k) P w1 →
      Calls Try.prog 72 (#[.int .i64 j, .int .i64 (sideA fs j k), .int .i64 (sideB fs j k)] ++ #[.pointer (some ⟨w.heap.size + 1 + 1 + 1 + 1, 0, none⟩), .pointer (some ⟨w.heap.size + 1 + 1, 0, none⟩)]) w1 fun e w' =>
        e = .returned (.tuple #[]) ∧ ∃ P', EJ (w.heap.size + 1 + 1 + 1 + 1) (w.heap.size + 1 + 1 + 1) (w.heap.size + 1 + 1) (colA fs) (colB fs) (colF fs) (sumTo fs j + k + 1) P' w' ∧ Ch P w1 w' ∧ ∀ b, P' b → P b ∨ w1.heap.size ≤ b) := fun j k P w1 hj hk hv => by
    have hl := (colTo_at (sideA fs) fs fs.length j k hj hk)
    have hlt : sumTo fs j + k < sumTo fs fs.length := by have := hl.1; rw [colTo_len] at this; exact this
    have hA := HK.out.inA _ hlt
    have hB := HK.out.inB _ hlt
    have hne := HK.out.ne _ hlt
    have hla := hl.2
    have hlb := (colTo_at (sideB fs) fs fs.length j k hj hk).2
    have hlf := (colTo_at sideF fs fs.length j k hj hk).2
    rw [hla] at hA
    rw [hlb] at hB
    rw [hla, hlb] at hne
    have := HK.out.few
    exact edges1 (w.heap.size + 1 + 1 + 1 + 1) (w.heap.size + 1 + 1 + 1) (w.heap.size + 1 + 1) (sumTo fs j + k) (colA fs) (colB fs) (colF fs) P j (sideA fs j k) (sideB fs j k) (by omega) hla hlb hlf hne hA hB (fun s r h1 h2 => HK.out.once s r h1 (by omega)) w1 hv
  have HSF := Lib.hid (HS.out.far (Far.below HB3.out hh))
  have hP : ∀ b, (b = w.heap.size + 1 + 1 + 1 + 1 ∨ b = w.heap.size + 1 + 1 + 1 ∨ b = w.heap.size + 1 + 1 ∨ b = w.heap.size + 1) → b < lo ∨ hi ≤ b := fun b hb => by omega
  have HPP := Lib.hid hP
  clear hP A3
  go_enter Try.func27, Try.ntmps27
  go_wp2_with fail
  refine (sides _ (EJ.keeps (w.heap.size + 1 + 1 + 1 + 1) (w.heap.size + 1 + 1 + 1) (w.heap.size + 1 + 1) (colA fs) (colB fs) (colF fs)) 72 _ (fun _ _ => rfl) lo hi sa fa pn sc fc fs hn HSH.out _ HST.out HSF.out (by simp; omega) _ HV3.out HPP.out).mono ?_
  rintro e w4 ⟨rfl, P, hwk⟩
  obtain ⟨rb, cap, hp, h1, h2, h3⟩ := hwk.inv.row
  have c1 := h1.cell 0
  simp at c1
  have hrb := hwk.new rb ((hp rb).2 (by simp))
  simp at hrb
  have HR := Lib.hid h2
  have HB4 : Hid (Below w.heap.size w w4) := HB3.out.trans (hwk.ch.toBelow (by simp; omega) (fun b hb => by omega))
  clear hwk hp h1 h2 h3 HST HV3 q0 q1
  go_wp2_with fail
  go_ret
  exact ⟨rb, cap, rfl, HR.out, by omega, HB4.out⟩
end Go.Proofs.Ytkjljajjjhfklaa

namespace Go.Proofs.Ytkjljajjjhfklaa
open Go.RowKit Go.Fl

theorem RetI.no {w w' : World} {xs : List Int} {ok : Bool} (h : xs = []) (hb : Below w.heap.size w w') : RetI xs ok w (.returned (.tuple #[.slice none 0 0, .bool ok])) w' := by
  subst h
  exact ⟨⟨none, 0, rfl, OwnI.nil _ _ _⟩, hb⟩
theorem RetI.yes {w w' : World} {xs : List Int} {e b cap : Nat} {ok : Bool} (h : ORow w' e 1 b cap xs.length (xs.map (Value.int .i64))) (hl : w.heap.size ≤ b) (hb : Below w.heap.size w w') : RetI xs ok w (.returned (.tuple #[.slice (some ⟨b, 0, none⟩) xs.length cap, .bool ok])) w' :=
  ⟨⟨_, cap, rfl, OwnI.row h rfl hl⟩, hb⟩

set_option maxHeartbeats 1000000 in
theorem facetsAtB (lo hi : Nat) (sa fa : Option Addr) (sc fc : Nat) (ps : List Sp) (fs : List (List Int)) (x : Int) (hp : ps.length ≤ 1048576) (hn : fs.length ≤ 1048576) (hsh : ∀ i, i < fs.length → (fAt fs i).length ≤ 1048576) (w : World)
    (hs : NetAt w lo hi sa fa ps fs) (hca : SlC w lo hi fa fs) (hh : hi ≤ w.heap.size) :
    Calls Try.prog 18 #[netV sa fa ps.length sc fs.length fc, .int .i64 x] w (RetI (faL ps fs x) (faOk ps fs x) w) := by
  have A0 : OwnC (w.alloc (.cells #[.slice sa ps.length sc, .slice fa fs.length fc] 27)) w.heap.size #[.slice sa ps.length sc, .slice fa fs.length fc] 27 := OwnC.new rfl
  have IS := Lib.hid (validNet lo hi sa fa sc fc ps fs hp hn hsh (w.alloc (.cells #[.slice sa ps.length sc, .slice fa fs.length fc] 27)) (hs.far ((Far.refl _ _ _).alloc _ hh)) (hca.far ((Far.refl _ _ _).alloc _ hh)) (by simp; omega))
  have HS := Lib.hid hs
  have HSH := Lib.hid hsh
  have HA0 := Lib.hid A0
  clear hs hsh A0 hca
  unfold netV at *
  cases hv : dec (OkNet ps fs (colA fs) (colB fs))
  · have HO : Hid (faOk ps fs x = false) := Lib.hid (by simp [faOk, hv])
    have HV := Lib.hid hv
    clear hv
    go_enter Try.func18, Try.ntmps18
    go_wp2_with (go_at_call 26; refine IS.out.mono ?_; rintro e w3 ⟨rfl, hb3⟩; rw [HV.out])
    go_ret2
    rw [HO.out]
    exact RetI.no (faL_no HO.out) (Below.trans (by (repeat (first | exact Below.refl _ _ | assumption | refine below_dr ?_ _ | refine Below.alloc ?_ (by first | omega | (simp; done) | (simp; omega)) _ | refine Below.setCell ?_ (by first | omega | (simp; done) | (simp; omega)) _ | refine Below.trans ?_ (Below.mono (by assumption) (by first | omega | (simp; done) | (simp; omega)))))) (hb3.mono (by simp)))
  · have HV := Lib.hid hv
    cases hi2 : inB x 0 ((ps.length : Int) - 1)
    · have HO : Hid (faOk ps fs x = false) := Lib.hid (by simp [faOk, hv, hi2])
      have HI := Lib.hid hi2
      clear hv hi2
      go_enter Try.func18, Try.ntmps18
      go_wp2_with (first | (go_at_call 26; refine IS.out.mono ?_; rintro e w3 ⟨rfl, hb3⟩; rw [HV.out]; have A1 := HA0.out.below hb3 (by first | omega | (simp; done) | (simp; omega)); have q0 := A1.cell 0; have q1 := A1.cell 1; simp at q0 q1) | (go_at_call 52; refine (within _ _ _ _).mono ?_; rintro e w3 ⟨rfl, rfl⟩; rw [HI.out]))
      go_ret2
      rw [HO.out]
      exact RetI.no (faL_no HO.out) (Below.trans (by (repeat (first | exact Below.refl _ _ | assumption | refine below_dr ?_ _ | refine Below.alloc ?_ (by first | omega | (simp; done) | (simp; omega)) _ | refine Below.setCell ?_ (by first | omega | (simp; done) | (simp; omega)) _ | refine Below.trans ?_ (Below.mono (by assumption) (by first | omega | (simp; done) | (simp; omega)))))) (hb3.mono (by simp)))
    · have HO : Hid (faOk ps fs x = true) := Lib.hid (by simp [faOk, hv, hi2])
      have HI := Lib.hid hi2
      clear hv hi2
      go_enter Try.func18, Try.ntmps18
      go_wp2_with (first | (go_at_call 26; refine IS.out.mono ?_; rintro e w3 ⟨rfl, hb3⟩; rw [HV.out]; have A1 := HA0.out.below hb3 (by first | omega | (simp; done) | (simp; omega)); have q0 := A1.cell 0; have q1 := A1.cell 1; simp at q0 q1) | (go_at_call 52; refine (within _ _ _ _).mono ?_; rintro e w3 ⟨rfl, rfl⟩; rw [HI.out]) | (go_at_call 59; refine (facetsAtI lo hi sa fa ps.length sc fc fs x hn HSH.out _ (HS.out.facets.far (((Far.refl _ _ _).alloc _ hh).trans (Far.below hb3 (by first | omega | (simp; done) | (simp; omega))))) (by have := hb3.size; simp at this; omega)).mono ?_; rintro e w4 ⟨b, cap, rfl, hr4, hl4, hb4⟩))
      go_ret2
      rw [HO.out, faL_yes HO.out]
      have z3 := hb3.size
      simp at z3
      exact RetI.yes hr4 (by omega) (Below.trans (Below.trans (by (repeat (first | exact Below.refl _ _ | assumption | refine below_dr ?_ _ | refine Below.alloc ?_ (by first | omega | (simp; done) | (simp; omega)) _ | refine Below.setCell ?_ (by first | omega | (simp; done) | (simp; omega)) _ | refine Below.trans ?_ (Below.mono (by assumption) (by first | omega | (simp; done) | (simp; omega)))))) (hb3.mono (by simp))) (hb4.mono (by omega)))
end Go.Proofs.Ytkjljajjjhfklaa

namespace Go.Proofs.Ytkjljajjjhfklaa
open Go.RowKit Go.Fl
/-- the edges told -/
noncomputable def prL (bo : Bool) (fs : List (List Int)) : List Int :=
  prTo (fun s => !bo || decide (backAt (colA fs) (colB fs) s < 0)) (colA fs) (colB fs) (firsts (colA fs) (colB fs) (sumTo fs fs.length)) (firsts (colA fs) (colB fs) (sumTo fs fs.length)).length

end Go.Proofs.Ytkjljajjjhfklaa

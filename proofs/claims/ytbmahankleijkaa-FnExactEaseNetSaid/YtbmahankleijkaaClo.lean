/- Contract: the program's walk over all sides of a net, whatever the closure that it calls. -/
import Derived.Test.YtbmahankleijkaaVs
import Derived.IntWalk
namespace Go.Fl
/-- what a closure keeps: t sides are done; P tells its blocks -/
structure Keeps (J : Nat → (Nat → Prop) → World → Prop) : Prop where
  stable : ∀ {t P w w'}, J t P w → (∀ b, P b → w'.heap[b]? = w.heap[b]?) → w.heap.size ≤ w'.heap.size → J t P w'
  low : ∀ {t P w}, J t P w → ∀ b, P b → b < w.heap.size
end Go.Fl
namespace Go.Proofs.Ytbmahankleijkaa
open Go.RowKit Go.Fl

/-- where the walk over the sides stands -/
structure Walks (J : Nat → (Nat → Prop) → World → Prop) (t : Nat) (P0 : Nat → Prop) (w wr : World) (P : Nat → Prop) : Prop where
  inv : J t P wr
  ch : Ch P0 w wr
  new : ∀ b, P b → P0 b ∨ w.heap.size < b

set_option maxHeartbeats 4000000 in
set_option maxRecDepth 100000 in
theorem sides (J : Nat → (Nat → Prop) → World → Prop) (HJ : Keeps J) (g : Nat) (caps : Array Value) (hgo : Goes g) (lo hi : Nat) (sa fa : Option Addr) (pn cn cm : Nat) (fs : List (List Int)) (hn : fs.length ≤ 1048576) (hsh : ∀ i, i < fs.length → (fAt fs i).length ≤ 1048576) (w : World)
    (hst : ∀ j k P w1, j < fs.length → k < (fAt fs j).length → J (sumTo fs j + k) P w1 → Calls Try.prog g (#[.int .i64 j, .int .i64 (sideA fs j k), .int .i64 (sideB fs j k)] ++ caps) w1 fun e w' => e = .returned (.tuple #[]) ∧ ∃ P', J (sumTo fs j + k + 1) P' w' ∧ Ch P w1 w' ∧ ∀ b, P' b → P b ∨ w1.heap.size ≤ b)
    (hs : SlN w lo hi fa fs) (hh : hi ≤ w.heap.size) (P0 : Nat → Prop) (hJ : J 0 P0 w) (hP : ∀ b, P0 b → b < lo ∨ hi ≤ b) :
    Calls Try.prog 106 #[netV sa fa pn cn fs.length cm, .func (.func g) #[] caps] w fun e w' => e = .returned (.tuple #[]) ∧ ∃ P, Walks J (sumTo fs fs.length) P0 w w' P := by
  have HS := Lib.hid hs
  have HSH := Lib.hid hsh
  have HST := Lib.hid hst
  have HP := Lib.hid hP
  have HJ0 := Lib.hid hJ
  have HK := Lib.hid HJ
  clear hs hsh hst hP hJ HJ
  have hgo' : ∀ args w, Sem.run Try.prog (callFunc g args) w = .ok (.enter g args) w := hgo
  unfold netV
  go_enter Try.func106, Try.ntmps106
  go_wp2_with fail
  go_loopw [11] (fun i wr => ∃ (j : Nat) (P : Nat → Prop), j ≤ fs.length ∧ i = .int .i64 j ∧ Hid (Walks J (sumTo fs j) P0 w wr P)) (fun i _ => fs.length - (intOf i).toNat)
  case atStart =>
    refine ⟨0, P0, by omega, rfl, Lib.hid ⟨HK.out.stable HJ0.out (fun b hb => ?_) (by simp), Ch.below (by (repeat (first | exact Below.refl _ _ | assumption | refine below_dr ?_ _ | refine Below.alloc ?_ (by first | omega | (simp; done) | (simp; omega)) _ | refine Below.setCell ?_ (by first | omega | (simp; done) | (simp; omega)) _ | refine Below.trans ?_ (Below.mono (by assumption) (by first | omega | (simp; done) | (simp; omega)))))), fun b hb => .inl hb⟩⟩
    exact Below.heap_alloc _ _ _ (HK.out.low HJ0.out b hb)
  case round =>
    clear HJ0
    obtain ⟨j, P, hj, rfl, HW⟩ := hrel
    by_cases hlt : j < fs.length
    · have hfar : Far lo hi w wr := HW.out.ch.far hh (fun b h1 h2 hp => by have := HP.out b hp; omega)
      obtain ⟨bf, of', rfl, f1, f2, hc⟩ := HS.out (by omega)
      obtain ⟨ai, ci, hc1, hs1⟩ := hc j hlt
      have e1 := (hfar.cell f1 f2).trans hc1
      have HS1 := Lib.hid hs1
      have hlk := HSH.out j hlt
      have hsz := HW.out.ch.size
      have k0 : (0 : Int) ≤ (j : Int) := by omega
      have k1 : (j : Int) < (fs.length : Int) := by omega
      have HOC := Lib.hid (OwnC.new (w := wr) (cs := #[.slice ai (fAt fs j).length ci]) (T := 82) rfl)
      have HW1 : Hid (Walks J (sumTo fs j) P0 w (wr.alloc (.cells #[.slice ai (fAt fs j).length ci] 82)) P) :=
        ⟨HK.out.stable HW.out.inv (fun b hb => Below.heap_alloc _ _ _ (HK.out.low HW.out.inv b hb)) (by simp), HW.out.ch.trans (P' := fun _ => False) (Ch.below (by (repeat (first | exact Below.refl _ _ | assumption | refine below_dr ?_ _ | refine Below.alloc ?_ (by first | omega | (simp; done) | (simp; omega)) _ | refine Below.setCell ?_ (by first | omega | (simp; done) | (simp; omega)) _ | refine Below.trans ?_ (Below.mono (by assumption) (by first | omega | (simp; done) | (simp; omega))))))) (fun b hb => hb.elim), HW.out.new⟩
      have HNP : Hid (¬ P wr.heap.size) := fun hp => absurd (HK.out.low HW.out.inv _ hp) (Nat.lt_irrefl _)
      clear hc hc1 hs1 hfar
      go_wp2_with fail
      generalize wr.heap.size = d5 at *
      go_loopw [19] (fun i wq => ∃ (k : Nat) (P : Nat → Prop), k ≤ (fAt fs j).length ∧ i = .int .i64 k ∧ Hid (Walks J (sumTo fs j + k) P0 w wq P) ∧ Hid (OwnC wq d5 #[.slice ai (fAt fs j).length ci] 82) ∧ Hid (¬ P d5)) (fun i _ => (fAt fs j).length - (intOf i).toNat)
      case atStart => exact ⟨0, P, by omega, rfl, HW1, HOC, HNP⟩
      case round =>
        clear HW1 HOC HNP HW e1
        obtain ⟨k, P, hk, rfl, HW, HO, HN⟩ := hrel
        have hfar : Far lo hi w wr := HW.out.ch.far hh (fun b h1 h2 hp => by have := HP.out b hp; omega)
        have o1 : wr.cell? ⟨d5, 0, none⟩ = some (.slice ai (fAt fs j).length ci) := HO.out.cell 0
        by_cases hlt2 : k < (fAt fs j).length
        · obtain ⟨b3, o3, rfl, f3, f4, hc3⟩ := HS1.out (by omega)
          have hm : (k + 1) % (fAt fs j).length < (fAt fs j).length := Nat.mod_lt _ (by omega)
          have e1 : wr.cell? ⟨b3, o3 + k, none⟩ = some (.int .i64 (sideA fs j k)) := (hfar.cell f3 f4).trans (hc3 k hlt2)
          have e2 : wr.cell? ⟨b3, o3 + (k + 1) % (fAt fs j).length, none⟩ = some (.int .i64 (sideB fs j k)) := (hfar.cell f3 f4).trans (hc3 _ hm)
          have t0 : (0 : Int) ≤ (k : Int) := by omega
          have t1 : (k : Int) < ((fAt fs j).length : Int) := by omega
          have t2 : IntKind.i64.wrap ((k : Int) + 1) = (k : Int) + 1 := by rw [IntKind.wrap_i64]; omega
          obtain ⟨q, hq⟩ : ∃ q, q = (k + 1) % (fAt fs j).length := ⟨_, rfl⟩
          rw [← hq] at hm e2
          have t3 : ((k : Int) + 1).tmod ((fAt fs j).length : Int) = (q : Int) := by
            rw [Int.tmod_eq_emod_of_nonneg (by omega), hq]; push_cast; rfl
          have t4 : (0 : Int) ≤ (q : Int) := by omega
          have t5 : (q : Int) < ((fAt fs j).length : Int) := by omega
          have HC := Lib.hid (HST.out j k P wr.drew hlt hlt2 (HK.out.stable HW.out.inv (fun b hb => rfl) (Nat.le_refl _)))
          have m3 : ¬ fAt fs j = [] := fun h => by rw [h] at hlt2; simp at hlt2
          have m4 : ((fAt fs j).length : Int) ≠ 0 := by omega
          have m5 : (fAt fs j).length ≠ 0 := by omega
          have hnb : ¬ P b3 := fun hp => by
            rcases HW.out.new b3 hp with h | h
            · have := HP.out b3 h; omega
            · omega
          have HNB := Lib.hid hnb
          have hdz := HO.out.lt
          clear hq hc3 hfar hnb
          go_wp2_with fail
          go_region_held3 (fun w' => w'.cell? ⟨d5, 0, none⟩ = some (.slice (some ⟨b3, o3, none⟩) (fAt fs j).length ci) ∧ w'.cell? ⟨b3, o3 + q, none⟩ = some (.int .i64 (sideB fs j k))) (first | go_keep | (refine ⟨?_, ?_⟩ <;> exact keep_cell (by assumption) (by assumption)))
            ((refine (HC.out).mono ?_; rintro e w3 ⟨rfl, P', hJ', hch, hnew⟩; have s1 : w3.cell? ⟨d5, 0, none⟩ = some (.slice (some ⟨b3, o3, none⟩) (fAt fs j).length ci) := hch.cell o1 HN.out; have s2 : w3.cell? ⟨b3, o3 + q, none⟩ = some (.int .i64 (sideB fs j k)) := hch.cell e2 HNB.out; have HJ' := Lib.hid hJ'; have HCH : Hid (Ch P wr w3) := Lib.hid ⟨hch.os, hch.tape, hch.output, hch.size, hch.block⟩; have HNEW := Lib.hid hnew; clear hJ' hch hnew))
          have hz1 : wr.heap.size ≤ w3.heap.size := HCH.out.size
          have HW3 : Hid (Walks J (sumTo fs j + (k + 1)) P0 w w3 P') := ⟨HJ'.out, HW.out.ch.trans HCH.out (fun b hb => (HW.out.new b hb).imp id fun h => by omega), fun b hb => by
            rcases HNEW.out b hb with h | h
            · exact HW.out.new b h
            · right
              have : wr.heap.size ≤ b := h
              omega⟩
          have HO3 := Lib.hid (HCH.out.own HO.out HN.out)
          have HN3 : Hid (¬ P' d5) := fun hp => by
            rcases HNEW.out d5 hp with h | h
            · exact HN.out h
            · have : wr.heap.size ≤ d5 := h
              omega
          clear o1 e1 e2 s1 s2
          go_wp2_with fail
          go_roundw
          case rel => exact ⟨k + 1, P', by omega, by go_num, HW3, HO3, HN3⟩
          case measure => simp [intOf]; omega
        · have hkn : k = (fAt fs j).length := by omega
          subst hkn
          go_wp2_with fail
          go_roundw
          case rel => exact ⟨j + 1, P, by omega, by go_num, HW⟩
          case measure => simp [intOf]; omega
    · go_wp2_with fail
      have hjn : j = fs.length := by omega
      subst hjn
      go_end0
      exact ⟨rfl, P, HW.out⟩
end Go.Proofs.Ytbmahankleijkaa

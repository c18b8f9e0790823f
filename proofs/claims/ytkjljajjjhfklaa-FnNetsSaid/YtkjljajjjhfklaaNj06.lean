/- Contract: the program's walk over all sides of a net, whatever the closure that it calls. Contract: the closure of the program's question whether a net is valid. Contract: whether a net is valid, the program's answer. -/
import Derived.Test.YtkjljajjjhfklaaNj05
import Derived.IntWalk
namespace Go.Fl
/-- what a closure keeps: t sides are done; P tells its blocks -/
structure Keeps (J : Nat → (Nat → Prop) → World → Prop) : Prop where
  stable : ∀ {t P w w'}, J t P w → (∀ b, P b → w'.heap[b]? = w.heap[b]?) → w.heap.size ≤ w'.heap.size → J t P w'
  low : ∀ {t P w}, J t P w → ∀ b, P b → b < w.heap.size
end Go.Fl
namespace Go.Proofs.Ytkjljajjjhfklaa
open Go.RowKit Go.Fl

/-- where the walk over the sides stands -/
structure Walks (J : Nat → (Nat → Prop) → World → Prop) (t : Nat) (P0 : Nat → Prop) (w wr : World) (P : Nat → Prop) : Prop where
  inv : J t P wr
  ch : Ch P0 w wr
  new : ∀ b, P b → P0 b ∨ w.heap.size < b

set_option maxHeartbeats 4000000 in
set_option maxRecDepth 100000 in
theorem sides (J : Nat → (Nat → Prop) → World → Prop) (HJ : Keeps J) (g : Nat) (caps : Array Value) (hgo : Goes g) (lo hi : Nat) (sa fa : Option Addr) (pn cn cm : Nat) (fs : List (List Int)) (hn : fs.length ≤ 1048576) (hsh : ∀ i, i < fs.length → (fAt fs i).length ≤ 1048576) (w : World)
    (hst : ∀ j k P w1, j < fs.length → k < (fAt fs j).length → J (sumTo fs j + k) P w1 → Calls Try.prog g (#[.int .i64 j, .int .i64 (sideA fs j k), .int .i64 (sideB fs j k)] ++ caps) w1 fun e w' => e = .returned (.tuple #[]) ∧ ∃ P', J (sumTo fs j + k + 1) P' w' ∧ Ch P w1 w' ∧ ∀ b, P' b → P b ∨ w1.heap.size ≤ b)
    (hs : SlN w lo hi fa fs) (hh : hi ≤ w.heap.size) (P0 : Nat → Prop) (hJ : J 0 P0 w) (hP : ∀ b, P0 b → b < lo ∨ hi ≤ b) :
    Calls Try.prog 69 #[netV sa fa pn cn fs.length cm, .func (.func g) #[] caps] w fun e w' => e = .returned (.tuple #[]) ∧ ∃ P, Walks J (sumTo fs fs.length) P0 w w' P := by
  have HS := Lib.hid hs
  have HSH := Lib.hid hsh
  have HST := Lib.hid hst
  have HP := Lib.hid hP
  have HJ0 := Lib.hid hJ
  have HK := Lib.hid HJ
  clear hs hsh hst hP hJ HJ
  have hgo' : ∀ args w, Sem.run Try.prog (callFunc g args) w = .ok (.enter g args) w := hgo
  unfold netV
  go_enter Try.func69, Try.ntmps69
  go_wp2_with fail
  go_loopw [11] (fun i wr => ∃ (j : Nat) (P : Nat → Prop), j ≤ fs.length ∧ i = .int .i64 j ∧ Hid (Walks J (sumTo fs j) P0 w wr P)) (fun i _ => fs.length - (intOf i).toNat)
  case atStart =>
    refine ⟨0, P0, by omega, rfl, Lib.hid ⟨HK.out.stable HJ0.out (fun b hb => ?_) (by simp), Ch.below (by (repeat (first | exact Below.refl _ _ | assumption | refine below_dr ?_ _ | refine Below.alloc ?_ (by first | omega | (simp; done) | (simp; omega)) _ | refine Below.setCell ?_ (by first | omega | (simp; done) | (simp; omega)) _ | refine Below.trans ?_ (Below.mono (by assumption) (by first | omega | (simp; done) | (simp; omega)))))), fun b hb => .inl hb⟩⟩
    exact Below.heap_alloc _ _ _ (HK.out.low HJ0.out b hb)
  case round =>
    clear HJ0
    obtain ⟨j, P, hj, rfl, HW⟩ := hrel
    by_cases hlt : j < fs.length
    · have hfar : Far lo hi w wr := HW.out.ch.far hh (fun b h1 h2 hp => by have := HP.out b hp; omega)
      obtain ⟨bf, of', rfl, f1, f2, hc⟩ := HS.out (by omega)
      obtain ⟨ai, ci, hc1, hs1⟩ := hc j hlt
      have e1 := (hfar.cell f1 f2).trans hc1
      have HS1 := Lib.hid hs1
      have hlk := HSH.out j hlt
      have hsz := HW.out.ch.size
      have k0 : (0 : Int) ≤ (j : Int) := by omega
      have k1 : (j : Int) < (fs.length : Int) := by omega
      have HOC := Lib.hid (OwnC.new (w := wr) (cs := #[.slice ai (fAt fs j).length ci]) (T := 38) rfl)
      have HW1 : Hid (Walks J (sumTo fs j) P0 w (wr.alloc (.cells #[.slice ai (fAt fs j).length ci] 38)) P) :=
        ⟨HK.out.stable HW.out.inv (fun b hb => Below.heap_alloc _ _ _ (HK.out.low HW.out.inv b hb)) (by simp), HW.out.ch.trans (P' := fun _ => False) (Ch.below (by (repeat (first | exact Below.refl _ _ | assumption | refine below_dr ?_ _ | refine Below.alloc ?_ (by first | omega | (simp; done) | (simp; omega)) _ | refine Below.setCell ?_ (by first | omega | (simp; done) | (simp; omega)) _ | refine Below.trans ?_ (Below.mono (by assumption) (by first | omega | (simp; done) | (simp; omega))))))) (fun b hb => hb.elim), HW.out.new⟩
      have HNP : Hid (¬ P wr.heap.size) := fun hp => absurd (HK.out.low HW.out.inv _ hp) (Nat.lt_irrefl _)
      clear hc hc1 hs1 hfar
      go_wp2_with fail
      generalize wr.heap.size = d5 at *
      go_loopw [19] (fun i wq => ∃ (k : Nat) (P : Nat → Prop), k ≤ (fAt fs j).length ∧ i = .int .i64 k ∧ Hid (Walks J (sumTo fs j + k) P0 w wq P) ∧ Hid (OwnC wq d5 #[.slice ai (fAt fs j).length ci] 38) ∧ Hid (¬ P d5)) (fun i _ => (fAt fs j).length - (intOf i).toNat)
      case atStart => exact ⟨0, P, by omega, rfl, HW1, HOC, HNP⟩
      case round =>
        clear HW1 HOC HNP HW e1
        obtain ⟨k, P, hk, rfl, HW, HO, HN⟩ := hrel
        have hfar : Far lo hi w wr := HW.out.ch.far hh (fun b h1 h2 hp => by have := HP.out b hp; omega)
        have o1 : wr.cell? ⟨d5, 0, none⟩ = some (.slice ai (fAt fs j).length ci) := HO.out.cell 0
        by_cases hlt2 : k < (fAt fs j).length
        · obtain ⟨b3, o3, rfl, f3, f4, hc3⟩ := HS1.out (by omega)
          have hm : (k + 1) % (fAt fs j).length < (fAt fs j).length := Nat.mod_lt _ (by omega)
          have e1 : wr.cell? ⟨b3, o3 + k, none⟩ = some (.int .i64 (sideA fs j k)) := (hfar.cell f3 f4).trans (hc3 k hlt2)
          have e2 : wr.cell? ⟨b3, o3 + (k + 1) % (fAt fs j).length, none⟩ = some (.int .i64 (sideB fs j k)) := (hfar.cell f3 f4).trans (hc3 _ hm)
          have t0 : (0 : Int) ≤ (k : Int) := by omega
          have t1 : (k : Int) < ((fAt fs j).length : Int) := by omega
          have t2 : IntKind.i64.wrap ((k : Int) + 1) = (k : Int) + 1 := by rw [IntKind.wrap_i64]; omega
          obtain ⟨q, hq⟩ : ∃ q, q = (k + 1) % (fAt fs j).length := ⟨_, rfl⟩
          rw [← hq] at hm e2
          have t3 : ((k : Int) + 1).tmod ((fAt fs j).length : Int) = (q : Int) := by
            rw [Int.tmod_eq_emod_of_nonneg (by omega), hq]; push_cast; rfl
          have t4 : (0 : Int) ≤ (q : Int) := by omega
          have t5 : (q : Int) < ((fAt fs j).length : Int) := by omega
          have HC := Lib.hid (HST.out j k P wr.drew hlt hlt2 (HK.out.stable HW.out.inv (fun b hb => rfl) (Nat.le_refl _)))
          have m3 : ¬ fAt fs j = [] := fun h => by rw [h] at hlt2; simp at hlt2
          have m4 : ((fAt fs j).length : Int) ≠ 0 := by omega
          have m5 : (fAt fs j).length ≠ 0 := by omega
          have hnb : ¬ P b3 := fun hp => by
            rcases HW.out.new b3 hp with h | h
            · have := HP.out b3 h; omega
            · omega
          have HNB := Lib.hid hnb
          have hdz := HO.out.lt
          clear hq hc3 hfar hnb
          go_wp2_with fail
          go_region_held3 (fun w' => w'.cell? ⟨d5, 0, none⟩ = some (.slice (some ⟨b3, o3, none⟩) (fAt fs j).length ci) ∧ w'.cell? ⟨b3, o3 + q, none⟩ = some (.int .i64 (sideB fs j k))) (first | go_keep | (refine ⟨?_, ?_⟩ <;> exact keep_cell (by assumption) (by assumption)))
            ((refine (HC.out).mono ?_; rintro e w3 ⟨rfl, P', hJ', hch, hnew⟩; have s1 : w3.cell? ⟨d5, 0, none⟩ = some (.slice (some ⟨b3, o3, none⟩) (fAt fs j).length ci) := hch.cell o1 HN.out; have s2 : w3.cell? ⟨b3, o3 + q, none⟩ = some (.int .i64 (sideB fs j k)) := hch.cell e2 HNB.out; have HJ' := Lib.hid hJ'; have HCH : Hid (Ch P wr w3) := Lib.hid ⟨hch.os, hch.tape, hch.output, hch.size, hch.block⟩; have HNEW := Lib.hid hnew; clear hJ' hch hnew))
          have hz1 : wr.heap.size ≤ w3.heap.size := HCH.out.size
          have HW3 : Hid (Walks J (sumTo fs j + (k + 1)) P0 w w3 P') := ⟨HJ'.out, HW.out.ch.trans HCH.out (fun b hb => (HW.out.new b hb).imp id fun h => by omega), fun b hb => by
            rcases HNEW.out b hb with h | h
            · exact HW.out.new b h
            · right
              have : wr.heap.size ≤ b := h
              omega⟩
          have HO3 := Lib.hid (HCH.out.own HO.out HN.out)
          have HN3 : Hid (¬ P' d5) := fun hp => by
            rcases HNEW.out d5 hp with h | h
            · exact HN.out h
            · have : wr.heap.size ≤ d5 := h
              omega
          clear o1 e1 e2 s1 s2
          go_wp2_with fail
          go_roundw
          case rel => exact ⟨k + 1, P', by omega, by go_num, HW3, HO3, HN3⟩
          case measure => simp [intOf]; omega
        · have hkn : k = (fAt fs j).length := by omega
          subst hkn
          go_wp2_with fail
          go_roundw
          case rel => exact ⟨j + 1, P, by omega, by go_num, HW⟩
          case measure => simp [intOf]; omega
    · go_wp2_with fail
      have hjn : j = fs.length := by omega
      subst hjn
      go_end0
      exact ⟨rfl, P, HW.out⟩
end Go.Proofs.Ytkjljajjjhfklaa

namespace Go.Fl
/-- no two of the first t sides are the same -/
def Once (A B : List Int) (t : Nat) : Prop := ∀ s r, s < r → r < t → ¬ (iAt A s = iAt A r ∧ iAt B s = iAt B r)
/-- one of the first t sides goes from x to y -/
def SideOf (A B : List Int) (t : Nat) (x y : Int) : Prop := ∃ s, s < t ∧ iAt A s = x ∧ iAt B s = y
/-- the map of the sides that were seen -/
noncomputable def seenF (A B : List Int) (t : Nat) : Int → Int → Option Value := fun x y => if dec (SideOf A B t x y) then some (.bool true) else none
theorem Once.zero (A B : List Int) : Once A B 0 := fun _ r _ h => absurd h (Nat.not_lt_zero r)
theorem once_succ {A B : List Int} {t : Nat} : Once A B (t + 1) ↔ Once A B t ∧ ¬ SideOf A B t (iAt A t) (iAt B t) := by
  constructor
  · intro h
    exact ⟨fun s r h1 h2 => h s r h1 (by omega), fun ⟨s, h1, h2, h3⟩ => h s t h1 (by omega) ⟨h2, h3⟩⟩
  · rintro ⟨h1, h2⟩ s r h3 h4 ⟨h5, h6⟩
    by_cases hr : r = t
    · subst hr; exact h2 ⟨s, h3, h5, h6⟩
    · exact h1 s r h3 (by omega) ⟨h5, h6⟩
theorem SideOf.succ {A B : List Int} {t : Nat} {x y : Int} : SideOf A B (t + 1) x y ↔ (x = iAt A t ∧ y = iAt B t) ∨ SideOf A B t x y := by
  constructor
  · rintro ⟨s, h1, h2, h3⟩
    by_cases hs : s = t
    · subst hs; exact .inl ⟨h2.symm, h3.symm⟩
    · exact .inr ⟨s, by omega, h2, h3⟩
  · rintro (⟨rfl, rfl⟩ | ⟨s, h1, h2, h3⟩)
    · exact ⟨t, by omega, rfl, rfl⟩
    · exact ⟨s, by omega, h2, h3⟩
theorem OMap.congr {w : World} {b n : Nat} {f g : Int → Int → Option Value} (h : OMap w b n f) (hfg : ∀ x y, f x y = g x y) : OMap w b n g := by
  have : f = g := funext fun x => funext fun y => hfg x y
  exact this ▸ h
end Go.Fl
namespace Go.Proofs.Ytkjljajjjhfklaa
open Go.RowKit Go.Fl
theorem seenF_succ (A B : List Int) (t : Nat) (x y : Int) : put2 (seenF A B t) (iAt A t) (iAt B t) (.bool true) x y = seenF A B (t + 1) x y := by
  unfold put2 seenF
  by_cases h : x = iAt A t ∧ y = iAt B t
  · rw [if_pos h, dec_yes (SideOf.succ.2 (.inl h)), if_pos rfl]
  · rw [if_neg h, dec_iff (SideOf.succ (A := A) (B := B) (t := t) (x := x) (y := y))]
    by_cases h2 : SideOf A B t x y
    · rw [dec_yes h2, dec_yes (.inr h2)]
    · rw [dec_no h2, dec_no (by rintro (h3 | h3); exact h h3; exact h2 h3)]

/-- what the closure keeps: its flag in block fb, its map's variable in block mb, the map in block M -/
structure VJ (fb mb M : Nat) (A B : List Int) (t : Nat) (P : Nat → Prop) (w : World) : Prop where
  foot : ∀ b, P b ↔ b = fb ∨ b = mb ∨ b = M
  flag : OwnC w fb #[.bool (dec (Once A B t))] 4
  var : OwnC w mb #[.map (some M)] 110
  map : OMap w M t (seenF A B t)
  apart : fb ≠ mb ∧ fb ≠ M ∧ mb ≠ M

theorem VJ.keeps (fb mb M : Nat) (A B : List Int) : Keeps (VJ fb mb M A B) where
  stable := fun {t P w w'} h hb _ =>
    ⟨h.foot, (hb fb ((h.foot fb).2 (.inl rfl))).trans h.flag, (hb mb ((h.foot mb).2 (.inr (.inl rfl)))).trans h.var, h.map.of_block (hb M ((h.foot M).2 (.inr (.inr rfl)))), h.apart⟩
  low := fun {t P w} h b hb => by
    rcases (h.foot b).1 hb with rfl | rfl | rfl
    · exact h.flag.lt
    · exact h.var.lt
    · exact h.map.lt
theorem zeroB (w : World) : (zeroValue 4).run Try.prog w = .ok (.bool false) w := by kernel_rfl

set_option maxHeartbeats 1000000 in
set_option maxRecDepth 100000 in
theorem valid1 (fb mb M t : Nat) (A B : List Int) (P : Nat → Prop) (j x y : Int) (hx : iAt A t = x) (hy : iAt B t = y) (ix : In64 x) (iy : In64 y) (w : World) (hJ : VJ fb mb M A B t P w) :
    Calls Try.prog 70 #[.int .i64 j, .int .i64 x, .int .i64 y, .pointer (some ⟨fb, 0, none⟩), .pointer (some ⟨mb, 0, none⟩)] w fun e w' => e = .returned (.tuple #[]) ∧ VJ fb mb M A B (t + 1) P w' ∧ Ch P w w' := by
  have HJ := Lib.hid hJ
  have c1 := hJ.flag.cell 0
  have c2 := hJ.var.cell 0
  have f1 := hJ.flag.free 0
  have ha := hJ.apart
  simp at c1 c2
  have HX := Lib.hid hx
  have HY := Lib.hid hy
  clear hJ hx hy
  have fin : ∀ w1, Hid (OMap w1 M (t + 1) (put2 (seenF A B t) x y (.bool true))) → Hid (Grew M (w.setCell ⟨fb, 0, none⟩ (.bool (dec (Once A B (t + 1))))) w1) → VJ fb mb M A B (t + 1) P w1 ∧ Ch P w w1 := by
    intro w1 h1 h2
    have hf := HJ.out.flag
    have hv := HJ.out.var
    have hl1 := hf.lt
    have hl2 := hv.lt
    refine ⟨⟨HJ.out.foot, ?_, ?_, ?_, ha⟩, ?_⟩
    · have : OwnC (w.setCell ⟨fb, 0, none⟩ (.bool (dec (Once A B (t + 1))))) fb #[.bool (dec (Once A B (t + 1)))] 4 := (hf.set 0 _).congr rfl
      exact (h2.out.block fb (by simpa using hl1) (by omega)).trans this
    · exact (h2.out.block mb (by simpa using hl2) (by omega)).trans (hv.other _ _ (by simp; omega))
    · refine h1.out.congr fun a b => ?_
      rw [← HX.out, ← HY.out]
      exact seenF_succ A B t a b
    · exact (Ch.set w _ _ ((HJ.out.foot _).2 (.inl rfl))).trans (Ch.grew h2.out ((HJ.out.foot _).2 (.inr (.inr rfl)))) (fun b hb => .inl hb)
  have FIN := Lib.hid fin
  clear fin
  by_cases ho : Once A B t
  · rw [dec_yes ho] at c1
    have HS : Hid ((seenF A B t x y).getD (.bool false) = .bool (dec (SideOf A B t x y))) := by
      show _ = _
      unfold seenF
      by_cases h : SideOf A B t x y
      · rw [dec_yes h]; rfl
      · rw [dec_no h]; rfl
    have HB : Hid (dec (Once A B (t + 1)) = !dec (SideOf A B t x y)) := by
      show _ = _
      by_cases h : SideOf A B t x y
      · rw [dec_yes h, dec_no (fun q => (once_succ.1 q).2 (by rw [HX.out, HY.out]; exact h))]; rfl
      · rw [dec_no h, dec_yes (once_succ.2 ⟨ho, by rw [HX.out, HY.out]; exact h⟩)]; rfl
    have HO := Lib.hid ho
    clear ho
    go_enter Try.func70, Try.ntmps70
    go_wp2_with (first | (at_lookup; refine wpList_look _ rfl _ _ _ _ rfl 4 Try.underlying110 _ (zeroB _) M t _ rfl HJ.out.map x y rfl ix iy ?_; simp only [HS.out, Bool.false_eq_true, if_false]) | (at_mapUpdate; refine wpList_store _ rfl _ _ _ _ rfl 4 Try.underlying110 M t _ rfl (HJ.out.map.of_block (Below.heap_setCell _ _ _ _ (by simp; omega))) x y rfl ix iy ?_; intro w1 hm1 hg1))
    go_end0
    rw [← HB.out] at hg1
    exact ⟨rfl, FIN.out w1 hm1 hg1⟩
  · rw [dec_no ho] at c1
    have HB := Lib.hid (dec_no (p := Once A B (t + 1)) fun q => ho (once_succ.1 q).1)
    clear ho
    go_enter Try.func70, Try.ntmps70
    go_wp2_with ((at_mapUpdate; refine wpList_store _ rfl _ _ _ _ rfl 4 Try.underlying110 M t _ rfl (HJ.out.map.of_block (Below.heap_setCell _ _ _ _ (by simp; omega))) x y rfl ix iy ?_; intro w1 hm1 hg1))
    go_end0
    rw [← HB.out] at hg1
    exact ⟨rfl, FIN.out w1 hm1 hg1⟩
end Go.Proofs.Ytkjljajjjhfklaa

namespace Go.Fl
/-- the first j facets and the first k corners of the next have the corner v -/
def UsedBy (fs : List (List Int)) (j k : Nat) (v : Int) : Prop := (∃ i, i < j ∧ Has (fAt fs i) (fAt fs i).length v) ∨ Has (fAt fs j) k v
/-- the facets' slices have room for what they hold -/
def SlC (w : World) (lo hi : Nat) (fa : Option Addr) (fs : List (List Int)) : Prop := ∀ b off, fa = some ⟨b, off, none⟩ → lo ≤ b ∧ b < hi ∧ ∀ i, i < fs.length → ∀ ai n ci, w.cell? ⟨b, off + i, none⟩ = some (.slice ai n ci) → n ≤ ci
theorem SlC.far {w w' : World} {lo hi : Nat} {fa : Option Addr} {fs : List (List Int)} (h : SlC w lo hi fa fs) (hf : Far lo hi w w') : SlC w' lo hi fa fs := fun b off hb => by
  obtain ⟨h1, h2, h3⟩ := h b off hb
  exact ⟨h1, h2, fun i hi ai n ci hc => h3 i hi ai n ci ((hf.cell h1 h2).symm.trans hc)⟩
end Go.Fl
namespace Go.Proofs.Ytkjljajjjhfklaa
open Go.RowKit Go.Fl
/-- where a side lies in the columns -/
theorem colTo_at (h : Nat → Nat → Int) (fs : List (List Int)) : ∀ n j k, j < n → k < (fAt fs j).length → sumTo fs j + k < (colTo h fs n).length ∧ iAt (colTo h fs n) (sumTo fs j + k) = h j k
  | 0, _, _, hj, _ => absurd hj (Nat.not_lt_zero _)
  | n + 1, j, k, hj, hk => by
    by_cases hjn : j = n
    · subst hjn
      have hl := colTo_len h fs j
      refine ⟨by simp [colTo, hl]; omega, ?_⟩
      show (List.getD _ _ 0) = _
      rw [colTo, List.getD_eq_getElem?_getD, List.getElem?_append_right (by omega)]
      have : sumTo fs j + k - (colTo h fs j).length = k := by omega
      rw [this]
      simp [hk]
    · obtain ⟨h1, h2⟩ := colTo_at h fs n j k (by omega) hk
      refine ⟨by simp [colTo]; omega, ?_⟩
      rw [← h2]
      simp [iAt, colTo, List.getElem?_append_left h1]
/-- each place of the columns is a side's -/
theorem colTo_of (h : Nat → Nat → Int) (fs : List (List Int)) : ∀ n t, t < sumTo fs n → ∃ j k, j < n ∧ k < (fAt fs j).length ∧ t = sumTo fs j + k
  | 0, t, ht => by simp [sumTo] at ht
  | n + 1, t, ht => by
    by_cases h1 : t < sumTo fs n
    · obtain ⟨j, k, a, b, c⟩ := colTo_of h fs n t h1
      exact ⟨j, k, by omega, b, c⟩
    · exact ⟨n, t - sumTo fs n, by omega, by simp [sumTo] at ht; omega, by omega⟩
theorem used_iff (fs : List (List Int)) (v : Int) : UsedBy fs fs.length 0 v ↔ ∃ t, t < (colA fs).length ∧ iAt (colA fs) t = v := by
  have hl : (colA fs).length = sumTo fs fs.length := colTo_len _ _ _
  constructor
  · rintro (⟨i, h1, s, h2, h3⟩ | ⟨s, h, _⟩)
    · obtain ⟨h4, h5⟩ := colTo_at (sideA fs) fs fs.length i s h1 h2
      exact ⟨_, h4, h5.trans h3⟩
    · exact absurd h (Nat.not_lt_zero _)
  · rintro ⟨t, h1, h2⟩
    obtain ⟨j, k, h3, h4, rfl⟩ := colTo_of (sideA fs) fs fs.length t (by omega)
    exact .inl ⟨j, h3, k, h4, ((colTo_at (sideA fs) fs fs.length j k h3 h4).2).symm.trans h2⟩
theorem UsedBy.step {fs : List (List Int)} {j k : Nat} {v : Int} : UsedBy fs j (k + 1) v ↔ v = iAt (fAt fs j) k ∨ UsedBy fs j k v := by
  unfold UsedBy Has
  constructor
  · rintro (h | ⟨s, h1, h2⟩)
    · exact .inr (.inl h)
    · by_cases hs : s = k
      · subst hs; exact .inl h2.symm
      · exact .inr (.inr ⟨s, by omega, h2⟩)
  · rintro (rfl | h | ⟨s, h1, h2⟩)
    · exact .inr ⟨k, by omega, rfl⟩
    · exact .inl h
    · exact .inr ⟨s, by omega, h2⟩
theorem UsedBy.next {fs : List (List Int)} {j : Nat} {v : Int} : UsedBy fs (j + 1) 0 v ↔ UsedBy fs j (fAt fs j).length v := by
  unfold UsedBy
  constructor
  · rintro (⟨i, h1, h2⟩ | ⟨s, h, _⟩)
    · by_cases hi : i = j
      · subst hi; exact .inr h2
      · exact .inl ⟨i, by omega, h2⟩
    · exact absurd h (Nat.not_lt_zero _)
  · rintro (⟨i, h1, h2⟩ | h)
    · exact .inl ⟨i, by omega, h2⟩
    · exact .inl ⟨j, by omega, h⟩
theorem used_set {fs : List (List Int)} {j k v : Nat} (hv : iAt (fAt fs j) k = v) (i : Nat) : (if i = v then Value.bool true else .bool (dec (UsedBy fs j k i))) = .bool (dec (UsedBy fs j (k + 1) i)) := by
  by_cases h : i = v
  · subst h; rw [if_pos rfl, dec_yes (UsedBy.step.2 (.inl hv.symm))]
  · rw [if_neg h]
    congr 1
    refine dec_iff ⟨fun q => UsedBy.step.2 (.inr q), fun q => ?_⟩
    rcases UsedBy.step.1 q with q | q
    · rw [hv] at q; omega
    · exact q

theorem side_in {n k : Nat} {f : List Int} (hn : n ≤ 256) (h : OkF n f) (hk : k < f.length) : In64 (iAt f k) := by
  have := (h.2.2 k hk).1
  simp only [inB, Bool.and_eq_true, decide_eq_true_eq] at this
  unfold In64
  omega

set_option maxHeartbeats 4000000 in
theorem validNet_early (lo hi : Nat) (sa fa : Option Addr) (sc fc : Nat) (ps : List Sp) (fs : List (List Int)) (hp : ps.length ≤ 1048576) (hn : fs.length ≤ 1048576) (w : World)
    (hs : NetAt w lo hi sa fa ps fs) (hh : hi ≤ w.heap.size)
    (hno : ¬ (3 ≤ ps.length ∧ ps.length ≤ 256 ∧ 1 ≤ fs.length ∧ fs.length ≤ 256 ∧ ps.all finSp = true)) :
    Calls Try.prog 26 #[netV sa fa ps.length sc fs.length fc] w fun e w' => e = .returned (.bool false) ∧ Below w.heap.size w w' := by
  have HS := Lib.hid hs
  clear hs
  unfold netV
  have hin : ∀ b, inB ps.length 3 256 = b → b = (decide (3 ≤ ps.length) && decide (ps.length ≤ 256)) := fun b h => by
    rw [← h]; unfold inB; congr 1 <;> simp <;> omega
  cases h1 : inB ps.length 3 256
  · clear hno hin
    go_enter Try.func26, Try.ntmps26
    go_wp2_with (go_at_call 52; refine (within _ _ _ _).mono ?_; rintro e w3 ⟨rfl, rfl⟩; rw [h1])
    go_ret
    exact ⟨rfl, by (repeat (first | exact Below.refl _ _ | assumption | refine below_dr ?_ _ | refine Below.alloc ?_ (by first | omega | (simp; done) | (simp; omega)) _ | refine Below.setCell ?_ (by first | omega | (simp; done) | (simp; omega)) _ | refine Below.trans ?_ (Below.mono (by assumption) (by first | omega | (simp; done) | (simp; omega)))))⟩
  have h2 := hin _ h1
  simp at h2
  cases h3 : ps.all finSp
  · clear hno hin
    go_enter Try.func26, Try.ntmps26
    go_wp2_with (first | (go_at_call 52; refine (within _ _ _ _).mono ?_; rintro e w3 ⟨rfl, rfl⟩; rw [h1]) | (go_at_call 67; refine (areSpots lo hi sa sc ps hp _ (HS.out.spots.far ((Far.refl _ _ _).alloc _ hh)) (by first | omega | (simp; done) | (simp; omega))).mono ?_; rintro e w3 ⟨rfl, hb⟩; rw [h3]))
    go_ret
    exact ⟨rfl, Below.trans (by (repeat (first | exact Below.refl _ _ | assumption | refine below_dr ?_ _ | refine Below.alloc ?_ (by first | omega | (simp; done) | (simp; omega)) _ | refine Below.setCell ?_ (by first | omega | (simp; done) | (simp; omega)) _ | refine Below.trans ?_ (Below.mono (by assumption) (by first | omega | (simp; done) | (simp; omega)))))) (hb.mono (by simp))⟩
  by_cases h4 : 1 ≤ fs.length
  rotate_left
  · clear hno hin
    go_enter Try.func26, Try.ntmps26
    go_wp2_with (first | (go_at_call 52; refine (within _ _ _ _).mono ?_; rintro e w3 ⟨rfl, rfl⟩; rw [h1]) | (go_at_call 67; refine (areSpots lo hi sa sc ps hp _ (HS.out.spots.far ((Far.refl _ _ _).alloc _ hh)) (by first | omega | (simp; done) | (simp; omega))).mono ?_; rintro e w3 ⟨rfl, hb⟩; rw [h3]; obtain ⟨hcA, hfA⟩ := bcell hb))
    go_ret
    exact ⟨rfl, Below.trans (by (repeat (first | exact Below.refl _ _ | assumption | refine below_dr ?_ _ | refine Below.alloc ?_ (by first | omega | (simp; done) | (simp; omega)) _ | refine Below.setCell ?_ (by first | omega | (simp; done) | (simp; omega)) _ | refine Below.trans ?_ (Below.mono (by assumption) (by first | omega | (simp; done) | (simp; omega)))))) (hb.mono (by simp))⟩
  by_cases h5 : fs.length ≤ 256
  · exact absurd ⟨h2.1, h2.2, h4, h5, h3⟩ hno
  · clear hno hin
    go_enter Try.func26, Try.ntmps26
    go_wp2_with (first | (go_at_call 52; refine (within _ _ _ _).mono ?_; rintro e w3 ⟨rfl, rfl⟩; rw [h1]) | (go_at_call 67; refine (areSpots lo hi sa sc ps hp _ (HS.out.spots.far ((Far.refl _ _ _).alloc _ hh)) (by first | omega | (simp; done) | (simp; omega))).mono ?_; rintro e w3 ⟨rfl, hb⟩; rw [h3]; obtain ⟨hcA, hfA⟩ := bcell hb))
    go_ret
    exact ⟨rfl, Below.trans (by (repeat (first | exact Below.refl _ _ | assumption | refine below_dr ?_ _ | refine Below.alloc ?_ (by first | omega | (simp; done) | (simp; omega)) _ | refine Below.setCell ?_ (by first | omega | (simp; done) | (simp; omega)) _ | refine Below.trans ?_ (Below.mono (by assumption) (by first | omega | (simp; done) | (simp; omega)))))) (hb.mono (by simp))⟩

set_option maxHeartbeats 4000000 in
set_option maxRecDepth 100000 in
theorem validNet_late (lo hi : Nat) (sa fa : Option Addr) (sc fc : Nat) (ps : List Sp) (fs : List (List Int)) (w : World)
    (hs : NetAt w lo hi sa fa ps fs) (hca : SlC w lo hi fa fs) (hh : hi ≤ w.heap.size) (hsh : ∀ i, i < fs.length → (fAt fs i).length ≤ 1048576)
    (h1 : 3 ≤ ps.length) (h2 : ps.length ≤ 256) (h3 : 1 ≤ fs.length) (h4 : fs.length ≤ 256) (h5 : ps.all finSp = true) :
    Calls Try.prog 26 #[netV sa fa ps.length sc fs.length fc] w fun e w' => e = .returned (.bool (dec (OkNet ps fs (colA fs) (colB fs)))) ∧ Below w.heap.size w w' := by
  have HS := Lib.hid hs
  have HSH := Lib.hid hsh
  have HCA := Lib.hid hca
  clear hs hsh hca
  unfold netV
  have hin : inB ps.length 3 256 = true := by unfold inB; simp; omega
  have hmk := run_make_row' (P := Try.prog) 108 4 (.bool false) 1 Try.underlying108 infoB rfl .i64 .i64 ps.length (by omega) (by omega)
  go_enter Try.func26, Try.ntmps26
  go_wp2_with (first | (go_at_call 52; refine (within _ _ _ _).mono ?_; rintro e w3 ⟨rfl, rfl⟩; rw [hin]) | (go_at_call 67; refine (areSpots lo hi sa sc ps (by omega) _ (HS.out.spots.far ((Far.refl _ _ _).alloc _ hh)) (by first | omega | (simp; done) | (simp; omega))).mono ?_; rintro e w3 ⟨rfl, hb⟩; rw [h5]; have A0 : OwnC w3 w.heap.size #[.slice sa ps.length sc, .slice fa fs.length fc] 27 := (OwnC.new rfl).below hb (by first | omega | (simp; done) | (simp; omega)); have q0 := A0.cell 0; have q1 := A0.cell 1; simp at q0 q1; have q2 := keep_cell (Below.alloc (Below.refl _ _) (Nat.le_refl _) (.cells (madeCells #[Value.bool false] ps.length) 4)) q1; have HA0 := Lib.hid A0; clear A0; have HB0 := Lib.hid hb; clear hb))
  have z0 := HB0.out.size
  have hb1 : Below w.heap.size w w3 := by
    have := HB0.out.mono (B' := w.heap.size) (by simp)
    (repeat (first | exact Below.refl _ _ | assumption | refine below_dr ?_ _ | refine Below.alloc ?_ (by first | omega | (simp; done) | (simp; omega)) _ | refine Below.setCell ?_ (by first | omega | (simp; done) | (simp; omega)) _ | refine Below.trans ?_ (Below.mono (by assumption) (by first | omega | (simp; done) | (simp; omega)))))
  have HB1 : Hid (Below w.heap.size w (w3.alloc (.cells (madeCells #[Value.bool false] ps.length) 4))) := hb1.alloc (by simp at z0; omega) _
  have HU1 : Hid ((w3.alloc (.cells (madeCells #[Value.bool false] ps.length) 4)).rowIs w3.heap.size 4 ps.length (fun v => .bool (dec (UsedBy fs 0 0 v)))) := (World.rowIs_made w3 (.bool false) ps.length 4).congr fun v _ => by
    rw [dec_no (by rintro (⟨i, h, _⟩ | ⟨i, h, _⟩) <;> exact absurd h (Nat.not_lt_zero _))]
  have HA1 := Lib.hid (HA0.out.alloc (.cells (madeCells #[Value.bool false] ps.length) 4))
  simp at z0
  clear q0 q1 q2 HA0 HB0 hb1 hmk
  generalize hub : w3.heap.size = ub at *
  go_loopw [40] (fun i wr => ∃ j : Nat, j ≤ fs.length ∧ i = .int .i64 j ∧ Hid (Below w.heap.size w wr) ∧ Hid (wr.rowIs ub 4 ps.length (fun v => .bool (dec (UsedBy fs j 0 v)))) ∧ Hid (OwnC wr w.heap.size #[.slice sa ps.length sc, .slice fa fs.length fc] 27) ∧ Hid (∀ t, t < j → OkF ps.length (fAt fs t))) (fun i _ => fs.length - (intOf i).toNat)
  case atStart => exact ⟨0, by omega, rfl, HB1, HU1, HA1, fun t ht => absurd ht (Nat.not_lt_zero _)⟩
  case round =>
    clear HB1 HU1 HA1 hub
    obtain ⟨j, hj, rfl, HW, HU, HA, HG⟩ := hrel
    have q1 := HA.out.cell 1
    simp at q1
    by_cases hlt : j < fs.length
    · obtain ⟨b1, o1, rfl, _, _, hc1⟩ := HS.out.facets (by omega)
      obtain ⟨ai, ci, d0, s1⟩ := hc1 j hlt
      have d1 := keep_cell HW.out d0
      have hcap := (HCA.out _ _ rfl).2.2 j hlt _ _ _ d0
      have S1 := Lib.hid s1
      have hlk := HSH.out j hlt
      clear d0 hc1 s1
      have k0 : (0 : Int) ≤ (j : Int) := by omega
      have k1 : (j : Int) < (fs.length : Int) := by omega
      have zr := HU.out.lt
      by_cases hl : 3 ≤ (fAt fs j).length ∧ (fAt fs j).length ≤ 8
      rotate_left
      · have HE := Lib.hid (dec_no (p := OkNet ps fs (colA fs) (colB fs)) fun q => hl ⟨(q.facets j hlt).1, (q.facets j hlt).2.1⟩)
        by_cases hl3 : 3 ≤ (fAt fs j).length
        · have hl8 : ¬ (fAt fs j).length ≤ 8 := fun h => hl ⟨hl3, h⟩
          clear hl
          go_wp2_with fail
          go_ret
          exact ⟨ret_bool HE.out.symm, HW.out.alloc (by have := HW.out.size; omega) _⟩
        · clear hl
          go_wp2_with fail
          go_ret
          exact ⟨ret_bool HE.out.symm, HW.out.alloc (by have := HW.out.size; omega) _⟩
      · obtain ⟨hl3, hl8⟩ := hl
        have HO := Lib.hid (OwnC.new (w := wr) (cs := #[.slice ai (fAt fs j).length ci]) (T := 38) rfl)
        have HU1 := Lib.hid (HU.out.of_block (Below.heap_alloc wr (.cells #[.slice ai (fAt fs j).length ci] 38) _ HU.out.lt))
        have HA1 := Lib.hid (HA.out.alloc (.cells #[.slice ai (fAt fs j).length ci] 38))
        have HW1 := Lib.hid (HW.out.alloc (HW.out.size) (.cells #[.slice ai (fAt fs j).length ci] 38))
        go_wp2_with fail
        have hud : ub ≠ wr.heap.size := by omega
        generalize wr.heap.size = d6 at *
        clear HW HU HA q1 d1
        go_loopw [57] (fun i wq => ∃ k : Nat, k ≤ (fAt fs j).length ∧ i = .int .i64 k ∧ Hid (Below w.heap.size w wq) ∧ Hid (wq.rowIs ub 4 ps.length (fun v => .bool (dec (UsedBy fs j k v)))) ∧ Hid (OwnC wq w.heap.size #[.slice sa ps.length sc, .slice (some ⟨b1, o1, none⟩) fs.length fc] 27) ∧ Hid (OwnC wq d6 #[.slice ai (fAt fs j).length ci] 38) ∧ Hid (FGood ps.length (fAt fs j) k)) (fun i _ => (fAt fs j).length - (intOf i).toNat)
        case atStart => exact ⟨0, by omega, rfl, HW1, HU1, HA1, HO, fun t ht => absurd ht (Nat.not_lt_zero _)⟩
        case round =>
          clear HW1 HU1 HA1 HO
          obtain ⟨k, hk, rfl, HW, HU, HA, HO, HF⟩ := hrel
          have o0 := HO.out.cell 0
          simp at o0
          by_cases hlt2 : k < (fAt fs j).length
          · have hsi := S1.out.far (Far.below HW.out hh)
            obtain ⟨b3, o3, rfl, f3, f4, hc3⟩ := hsi (by omega)
            have e1 := hc3 k hlt2
            have HSI := Lib.hid hsi
            have t0 : (0 : Int) ≤ (k : Int) := by omega
            have t1 : (k : Int) < ((fAt fs j).length : Int) := by omega
            have t2 : (k : Int) ≤ ((fAt fs j).length : Int) := by omega
            have t3 : (k : Int) ≤ (ci : Int) := by omega
            clear hc3 hsi
            cases hib : inB (iAt (fAt fs j) k) 0 ((ps.length : Int) - 1)
            · have HE := Lib.hid (dec_no (p := OkNet ps fs (colA fs) (colB fs)) fun q => OkF.not_in hlt2 hib (q.facets j hlt))
              have HIB := Lib.hid hib
              clear hib
              go_wp2_with (go_at_call 52; refine (within _ _ _ _).mono ?_; rintro e w4 ⟨rfl, rfl⟩; rw [HIB.out])
              go_ret
              exact ⟨ret_bool HE.out.symm, HW.out⟩
            · have hib2 := hib
              simp only [inB, Bool.and_eq_true, decide_eq_true_eq] at hib2
              obtain ⟨v, hv⟩ := Int.eq_ofNat_of_zero_le hib2.1
              have hvn : v < ps.length := by omega
              by_cases hhas : Has (fAt fs j) k v
              · have HE := Lib.hid (dec_no (p := OkNet ps fs (colA fs) (colB fs)) fun q => by
                  obtain ⟨s, h1, h2⟩ := hhas
                  exact OkF.not_eq hlt2 h1 (h2.trans hv.symm) (q.facets j hlt))
                have HHAS := Lib.hid (dec_yes hhas)
                rw [hv] at hib e1
                have HIB := Lib.hid hib
                clear hib hib2 hhas hv
                go_wp2_with (first | (go_at_call 52; refine (within _ _ _ _).mono ?_; rintro e w4 ⟨rfl, rfl⟩; rw [HIB.out]) | (go_at_call 68; refine (containsI lo hi k _ _ (fAt fs j) v (by omega) (by omega) _ HSI.out).mono ?_; rintro e w4 ⟨rfl, rfl⟩; rw [HHAS.out]))
                go_ret
                exact ⟨ret_bool HE.out.symm, HW.out⟩
              · have HHAS := Lib.hid (dec_no hhas)
                have HF2 : Hid (FGood ps.length (fAt fs j) (k + 1)) := fun t ht => by
                  by_cases htk : t = k
                  · subst htk
                    exact ⟨hib, fun s hs he => hhas ⟨s, hs, by rw [he, hv]⟩⟩
                  · exact HF.out t (by omega)
                have HU2 := Lib.hid ((HU.out.set v (.bool true)).congr fun i _ => used_set (fs := fs) (j := j) (k := k) hv i)
                have HA2 := Lib.hid (HA.out.other ⟨ub, v, none⟩ (.bool true) (by simp; omega))
                have HO2 := Lib.hid (HO.out.other ⟨ub, v, none⟩ (.bool true) (by simp; omega))
                have HW2 := Lib.hid (HW.out.setCell (p := ⟨ub, v, none⟩) (by simp; omega) (.bool true))
                rw [hv] at hib e1
                have HIB := Lib.hid hib
                have u1 := HU.out.cell hvn
                have u2 := HU.out.frozen v
                have v0 : (0 : Int) ≤ (v : Int) := by omega
                have v1 : (v : Int) < (ps.length : Int) := by omega
                clear hib hib2 hhas hv
                go_wp2_with (first | (go_at_call 52; refine (within _ _ _ _).mono ?_; rintro e w4 ⟨rfl, rfl⟩; rw [HIB.out]) | (go_at_call 68; refine (containsI lo hi k _ _ (fAt fs j) v (by omega) (by omega) _ HSI.out).mono ?_; rintro e w4 ⟨rfl, rfl⟩; rw [HHAS.out]))
                go_roundw
                case rel => exact ⟨k + 1, by omega, by go_num, HW2, HU2, HA2, HO2, HF2⟩
                case measure => simp [intOf]; omega
          · have hkn : k = (fAt fs j).length := by omega
            subst hkn
            have HU2 := Lib.hid (HU.out.congr fun i _ => congrArg Value.bool (dec_iff (UsedBy.next (fs := fs) (j := j) (v := (i : Int))).symm))
            have HG2 : Hid (∀ t, t < j + 1 → OkF ps.length (fAt fs t)) := fun t ht => by
              by_cases htj : t = j
              · subst htj; exact ⟨hl3, hl8, HF.out⟩
              · exact HG.out t (by omega)
            go_wp2_with fail
            go_roundw
            case rel => exact ⟨j + 1, by omega, by go_num, HW, HU2, HA, HG2⟩
            case measure => simp [intOf]; omega
    · have hjn : j = fs.length := by omega
      subst hjn
      have hmm := @run_makeMap Try.prog
      have A3 := ((HA.out.alloc (.map #[] 0)).alloc (.cells #[.map (some wr.heap.size)] 110)).alloc (.cells #[.bool true] 4)
      have q0 := A3.cell 0
      have q1 := A3.cell 1
      simp at q0 q1
      have zu := HU.out.lt
      have zw := HW.out.size
      have HB3 : Hid (Below w.heap.size w (((wr.alloc (.map #[] 0)).alloc (.cells #[.map (some wr.heap.size)] 110)).alloc (.cells #[.bool true] 4))) :=
        ((HW.out.alloc zw _).alloc (by simp; omega) _).alloc (by simp; omega) _
      have HU3 := Lib.hid (((HU.out.of_block (Below.heap_alloc wr (.map #[] 0) _ zu)).of_block (Below.heap_alloc _ (.cells #[.map (some wr.heap.size)] 110) _ (by simp; omega))).of_block (Below.heap_alloc _ (.cells #[.bool true] 4) _ (by simp; omega)))
      have HV3 : Hid (VJ (wr.heap.size + 1 + 1) (wr.heap.size + 1) wr.heap.size (colA fs) (colB fs) 0 (fun b => b = wr.heap.size + 1 + 1 ∨ b = wr.heap.size + 1 ∨ b = wr.heap.size) (((wr.alloc (.map #[] 0)).alloc (.cells #[.map (some wr.heap.size)] 110)).alloc (.cells #[.bool true] 4))) := by
        refine ⟨fun b => Iff.rfl, ?_, ?_, ?_, by omega⟩
        · rw [dec_yes (Once.zero _ _)]
          exact OwnC.new (by simp)
        · exact (OwnC.new (by simp)).alloc _
        · refine ((OMap.made wr).of_block ?_).congr fun x y => ?_
          · exact (Below.heap_alloc _ _ _ (by simp; omega)).trans (Below.heap_alloc _ _ _ (by simp))
          · unfold seenF
            rw [dec_no (by rintro ⟨s, h, _⟩; exact absurd h (Nat.not_lt_zero _))]; rfl
      have HST : Hid (∀ j k P w1, j < fs.length → k < (fAt fs j).length → VJ (wr.heap.size + 1 + 1) (wr.heap.size + 1) wr.heap.size (colA fs) (colB fs) (sumTo fs j + k) P w1 →
          Calls Try.prog 70 (#[.int .i64 j, .int .i64 (sideA fs j k), .int .i64 (sideB fs j k)] ++ #[.pointer (some ⟨wr.heap.size + 1 + 1, 0, none⟩), .pointer (some ⟨wr.heap.size + 1, 0, none⟩)]) w1 fun e w' =>
            e = .returned (.tuple #[]) ∧ ∃ P', VJ (wr.heap.size + 1 + 1) (wr.heap.size + 1) wr.heap.size (colA fs) (colB fs) (sumTo fs j + k + 1) P' w' ∧ Ch P w1 w' ∧ ∀ b, P' b → P b ∨ w1.heap.size ≤ b) := fun j k P w1 hj hk hv => by
        have hA := side_in h2 (HG.out j hj) hk
        have hB := side_in h2 (HG.out j hj) (Nat.mod_lt (k + 1) (by omega))
        refine (valid1 (wr.heap.size + 1 + 1) (wr.heap.size + 1) wr.heap.size (sumTo fs j + k) (colA fs) (colB fs) P j (sideA fs j k) (sideB fs j k) (colTo_at (sideA fs) fs fs.length j k hj hk).2 (colTo_at (sideB fs) fs fs.length j k hj hk).2 hA hB w1 hv).mono ?_
        rintro e w' ⟨rfl, h1, h2⟩
        exact ⟨rfl, P, h1, h2, fun b hb => .inl hb⟩
      have HSF := Lib.hid (HS.out.facets.far (Far.below HB3.out hh))
      have hP : ∀ b, (b = wr.heap.size + 1 + 1 ∨ b = wr.heap.size + 1 ∨ b = wr.heap.size) → b < lo ∨ hi ≤ b := fun b hb => by omega
      have HPP := Lib.hid hP
      have zb := HB3.out.size
      simp at zb
      clear hP A3
      generalize hcA : colA fs = A at *
      generalize hcB : colB fs = B at *
      have HCA := Lib.hid hcA
      have HCB := Lib.hid hcB
      clear hcA hcB
      go_wp2_with fail
      refine (sides _ (VJ.keeps (wr.heap.size + 1 + 1) (wr.heap.size + 1) wr.heap.size A B) 70 _ (fun _ _ => rfl) lo hi sa fa ps.length sc fc fs (by omega) HSH.out _ HST.out HSF.out (by simp; omega) _ HV3.out HPP.out).mono ?_
      rintro e w4 ⟨rfl, P, hwk⟩
      have hfl := hwk.inv.flag.cell 0
      simp at hfl
      have HU4 := Lib.hid (HU3.out.of_block (hwk.ch.block ub (by simp; omega) (by omega)))
      have HB4 : Hid (Below w.heap.size w w4) := HB3.out.trans (hwk.ch.toBelow (by simp; omega) (fun b hb => by omega))
      clear hwk q0 q1 HB3 HU3 HST HV3
      by_cases ho : Once A B (sumTo fs fs.length)
      · rw [dec_yes ho] at hfl
        have HO := Lib.hid ho
        clear ho
        go_wp2_with (go_at_call 71; refine (containsB ub ps.length _ _ _ (by omega) _ HU4.out).mono ?_; rintro e w5 ⟨rfl, rfl⟩)
        go_ret
        refine ⟨ret_bool ?_, HB4.out⟩
        have hl : (colA fs).length = sumTo fs fs.length := colTo_len _ _ _
        have hx := HCA.out
        have hy := HCB.out
        subst hx hy
        by_cases hu : ∃ s, s < ps.length ∧ dec (UsedBy fs fs.length 0 (s : Int)) = false
        · rw [dec_yes hu, dec_no]
          · rfl
          · intro q
            obtain ⟨s, h1, h2⟩ := hu
            rw [dec_yes ((used_iff fs s).2 (q.used s h1))] at h2
            cases h2
        · rw [dec_no hu, dec_yes]
          · rfl
          · refine ⟨h1, h2, h3, h4, h5, HG.out, ?_, fun v hv => ?_⟩
            · rw [hl]; exact HO.out
            · by_cases h : UsedBy fs fs.length 0 (v : Int)
              · exact (used_iff fs v).1 h
              · exact absurd ⟨v, hv, dec_no h⟩ hu
      · rw [dec_no ho] at hfl
        have HO := Lib.hid ho
        clear ho
        go_wp2_with fail
        go_ret
        refine ⟨ret_bool ?_, HB4.out⟩
        have hl : (colA fs).length = sumTo fs fs.length := colTo_len _ _ _
        have hx := HCA.out
        have hy := HCB.out
        subst hx hy
        refine (dec_no fun q => HO.out ?_).symm
        have := q.once
        rw [hl] at this
        exact this

/-- the program's answer to whether a net is valid -/
theorem validNet (lo hi : Nat) (sa fa : Option Addr) (sc fc : Nat) (ps : List Sp) (fs : List (List Int)) (hp : ps.length ≤ 1048576) (hn : fs.length ≤ 1048576) (hsh : ∀ i, i < fs.length → (fAt fs i).length ≤ 1048576) (w : World)
    (hs : NetAt w lo hi sa fa ps fs) (hca : SlC w lo hi fa fs) (hh : hi ≤ w.heap.size) :
    Calls Try.prog 26 #[netV sa fa ps.length sc fs.length fc] w fun e w' => e = .returned (.bool (dec (OkNet ps fs (colA fs) (colB fs)))) ∧ Below w.heap.size w w' := by
  by_cases h : 3 ≤ ps.length ∧ ps.length ≤ 256 ∧ 1 ≤ fs.length ∧ fs.length ≤ 256 ∧ ps.all finSp = true
  · obtain ⟨h1, h2, h3, h4, h5⟩ := h
    exact validNet_late lo hi sa fa sc fc ps fs w hs hca hh hsh h1 h2 h3 h4 h5
  · rw [dec_no (p := OkNet ps fs (colA fs) (colB fs)) fun q => h ⟨q.n3, q.n256, q.f1, q.f256, q.spots⟩]
    exact validNet_early lo hi sa fa sc fc ps fs hp hn w hs hh h
theorem OwnNet.caps {w : World} {lo hi bs bf : Nat} {g : Nat → Nat} {ps : List Sp} {fs : List (List Int)} (h : OwnNet w lo hi bs bf g ps fs) : SlC w lo hi (some ⟨bf, 0, none⟩) fs := fun b off hb => by
  cases hb
  exact ⟨h.facets.row.1, h.facets.row.2, fun i hi ai n ci hc => h.facets.cap i hi ai n ci (by rw [Nat.zero_add] at hc; exact hc)⟩
end Go.Proofs.Ytkjljajjjhfklaa

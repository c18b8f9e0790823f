/- spec.l07DrawOk: a valid outline of quarters. (Written by mkgdraw.py.) -/
import Derived.Test.YtgghhnglnklmbaaGLoop
import Derived.Test.YtgghhnglnklmbaaQApp
namespace Go.Fl
open Go.RowKit
def dName : Nat → ByteArray
  | 0 => ⟨#[97]⟩
  | 1 => ⟨#[108, 101, 97, 102]⟩
  | 2 => ⟨#[107, 101, 121]⟩
  | _ => ⟨#[122, 122]⟩
theorem dName_ok {i : Nat} (h : i < 4) : okName (dName i) := by
  have : ∀ i, i < 4 → okName (dName i) := by decide +kernel
  exact this i h
def lpOk (l : List Cx) : Prop := 3 ≤ l.length ∧ l.length ≤ 6 ∧ ∀ z, z ∈ l → ptOk z
theorem good_of {nm : ByteArray} {ls : List (List Cx)} (h1 : okName nm) (h2 : 1 ≤ ls.length) (h3 : ls.length ≤ 4) (h4 : ∀ l, l ∈ ls → lpOk l) : GoodO (nm, ls) := by
  refine ⟨⟨h1, h2, h3, List.all_eq_true.2 fun l hl => ?_⟩, fun i hi k hk => ?_⟩
  · obtain ⟨a1, a2, a3⟩ := h4 l hl
    unfold okLoop
    rw [Bool.and_eq_true, Bool.and_eq_true]
    exact ⟨⟨decide_eq_true a1, decide_eq_true (by omega)⟩, List.all_eq_true.2 fun z hz => (a3 z hz).1⟩
  · have hi : i < ls.length := hi
    have e : lpAt ls i = ls[i] := by simp [lpAt, hi]
    have hk : k < (lpAt ls i).length := hk
    show (cAt (lpAt ls i) k).1 < 4294967296 ∧ (cAt (lpAt ls i) k).2 < 4294967296
    rw [e] at hk ⊢
    have e2 : cAt ls[i] k = ls[i][k] := by simp [cAt, hk]
    rw [e2]
    exact ((h4 _ (List.getElem_mem hi)).2.2 _ (List.getElem_mem hk)).2.1
theorem Kept.src {w w' : World} {lo hi : Nat} (h : Kept lo hi w w') {b : Nat} {cs : Array Value} {T : TypeId} (ho : OwnC w b cs T) (hn : ¬ (lo ≤ b ∧ b < hi)) : OwnC w' b cs T := (h.block b ho.lt hn).trans ho
theorem Kept.on {lo hi B : Nat} {a w w' : World} (h : Kept lo hi a w) (hb : Below B w w') (hB : a.heap.size ≤ B) : Kept lo hi a w' :=
  ⟨hb.os.trans h.os, hb.tape.trans h.tape, hb.output.trans h.output, Nat.le_trans h.size hb.size, fun c hc hn => (hb.block c (by omega)).trans (h.block c hc hn), fun c n hc hr => Room.same (hb.block c (by omega)) (h.room c n hc hr)⟩
theorem Kept.setNew {lo hi : Nat} {a w : World} (h : Kept lo hi a w) {p : Addr} (hp : a.heap.size ≤ p.block) (v : Value) : Kept lo hi a (w.setCell p v) := h.on (Below.setCell (Below.refl a.heap.size w) hp v) (Nat.le_refl _)
theorem Kept.drewN' {lo hi : Nat} {a w : World} (h : Kept lo hi a w) (n : Nat) : Kept lo hi a (w.drewN n) := ⟨h.os, h.tape, h.output, h.size, h.block, h.room⟩
end Go.Fl
namespace Go.Proofs.Ytgghhnglnklmbaa
open Go.RowKit Go.Fl

set_option maxHeartbeats 2000000 in
set_option maxRecDepth 100000 in
theorem drawOk (p : Nat) (a : Option Addr) (n c m : Nat) (hn : n ≤ 1048576) (hm : m ≤ 900) (w : World) (hp : p < w.heap.size) (h : SrcAt w 75 p a n c m) :
    Calls Try.prog 19 #[.pointer (some ⟨p, 0, none⟩)] w fun e w' => (∃ nm ls ao cap, e = .returned (.agg #[.string nm, .slice ao (List.length ls) cap]) ∧ GoodO (nm, ls) ∧ (∀ l, l ∈ ls → lpOk l) ∧ ls.length ≤ 2 ∧ LsAt w' 58 w.heap.size w'.heap.size ao cap ls) ∧
      SrcAt w' 75 p a n c (m + 28) ∧ Kept p (p + 1) w w' := by
  have H := Lib.hid h
  clear h
  go_enter Try.func19, Try.ntmps19
  go_wp2_with fail
  have hw2 : Only (fun c => c = p) w w := Only.refl _ _
  refine (textS p a n c m (w.heap.size + 1) 4 dName hn (by omega) (by omega) _ (fun i hi => ?_) (H.out.far (((Far.refl _ _ _).alloc _ (by omega)).alloc _ (by simp; omega)))).mono ?_
  · rw [show w.heap.size + 1 = (w.alloc (.cells #[.string ⟨#[]⟩, .slice none 0 0] 26)).heap.size by simp, Lib.cell_of_heap (heap_alloc_new _ _)]
    match i, hi with
    | 0, _ => rfl
    | 1, _ => rfl
    | 2, _ => rfl
    | 3, _ => rfl
  rintro e w1 ⟨⟨r, hr, rfl⟩, hs, ho⟩
  have HN := Lib.hid (dName_ok hr)
  have HS1 := Lib.hid hs
  have hz1 : w1.heap.size = w.heap.size + 2 := by rw [ho.size]; simp
  have hA : Kept p (p + 1) w w1 := ((Kept.of_below (Below.alloc (Below.alloc (Below.refl w.heap.size w) (Nat.le_refl _) _) (by simp) _) p (p + 1)).trans (ho.kept (lo := p) (hi := p + 1) fun c hc => by omega))
  have HK1 := Lib.hid hA
  have hR : OwnC w1 w.heap.size #[.string ⟨#[]⟩, .slice none 0 0] 26 := by
    have h0 : OwnC (w.alloc (.cells #[.string ⟨#[]⟩, .slice none 0 0] 26)) w.heap.size #[.string ⟨#[]⟩, .slice none 0 0] 26 := OwnC.new rfl
    exact (ho.block _ (by omega)).trans (h0.alloc _)
  have HR1 := Lib.hid hR
  obtain ⟨nm, hnm⟩ : ∃ x, x = dName r := ⟨_, rfl⟩
  rw [← hnm] at HN ⊢
  clear hs ho hw2 hA hR hnm hr
  have HO1 := Lib.hid (OwnC.new (w := w1) (cs := #[.string nm, .slice none 0 0]) (T := 26) rfl)
  go_wp2_with fail
  refine (pickS p a n c (m + 1) 2 hn (by omega) (by decide) (by decide) _ (HS1.out.far ((Far.refl _ _ _).alloc _ (by omega)))).mono ?_
  rintro e w2 ⟨⟨r2, rfl, hr2⟩, hs, ho⟩
  have HS2 := Lib.hid hs
  have hz2 : w2.heap.size = w.heap.size + 3 := by rw [ho.size]; simp; omega
  have HK2 := Lib.hid ((HK1.out.trans (Kept.of_below (Below.alloc (Below.refl w1.heap.size w1) (Nat.le_refl _) (.cells #[.string nm, .slice none 0 0] 26)) p (p + 1))).trans (ho.kept (lo := p) (hi := p + 1) fun c hc => by omega))
  have HR2 := Lib.hid (show OwnC w2 _ _ _ from (ho.block _ (by omega)).trans (HR1.out.alloc _))
  have HO2 := Lib.hid (show OwnC w2 _ _ _ from (ho.block _ (by omega)).trans HO1.out)
  have q0 : (1 : Int) + (r2 : Int) = ((1 + r2 : Nat) : Int) := by omega
  obtain ⟨N, hN⟩ : ∃ x, x = 1 + r2 := ⟨_, rfl⟩
  rw [← hN] at q0
  have hN2 : N ≤ 2 := by omega
  have hN1 : 1 ≤ N := by omega
  clear hs ho hN HS1 HK1 HR1 HO1
  rw [hz1] at HO2
  have hB3 : w.heap.size + 3 = (w.heap.size + 2) + 1 := by omega
  have hBp : ¬ (p ≤ (w.heap.size + 2) ∧ (w.heap.size + 2) < p + 1) := by omega
  go_wp2_with fail
  clear hz1
  go_loopw [4] (fun i wr => ∃ (k s cap : Nat) (ao : Option Addr) (ls : List (List Cx)), k = ls.length ∧ k + s = N ∧ i = .int .i64 s ∧ Hid (∀ l, l ∈ ls → lpOk l) ∧ Hid (OwnC wr w.heap.size #[.string ⟨#[]⟩, .slice none 0 0] 26) ∧ Hid (OwnC wr (w.heap.size + 2) #[.string nm, .slice ao k cap] 26) ∧
    Hid (LsAt wr 58 (w.heap.size + 3) wr.heap.size ao cap ls) ∧ w.heap.size + 3 ≤ wr.heap.size ∧ Hid (SrcAt wr 75 p a n c (m + 2 + 13 * k)) ∧ Hid (Kept p (p + 1) w wr)) (fun i _ => (intOf i).toNat)
  case atStart => exact ⟨0, N, 0, none, [], rfl, by omega, rfl, Lib.hid (fun l hl => by simp at hl), HR2, HO2, Lib.hid (LsAt.nil _ _ _ _), by omega, HS2, HK2⟩
  case round =>
    obtain ⟨k, s, cap, ao, ls, hk, hks, rfl, HZ, HR, HO, HL, hBz, HS, HK⟩ := hrel
    have HKL := Lib.hid hk
    clear hk
    by_cases hs : 0 < s
    · have s0 : (0 : Int) < (s : Int) := by omega
      obtain ⟨wo, hwo⟩ : ∃ x : World, x = wr := ⟨_, rfl⟩
      subst hwo
      have c1 := HO.out.cell 1
      have f1 := HO.out.free 1
      simp at c1
      have hk2 : k ≤ 2 := by omega
      have HDL := Lib.hid (fun n0 => drawLoop p a n c (m + 2 + 13 * k) hn (by omega) (wo.drewN n0) (by show p < wo.heap.size; omega) (HS.out.far ((Far.refl _ _ _).drewN n0)))
      go_wp2_with fail
      go_region_law (first
        | (go_simp; go_at_call 42; refine (HDL.out 1).mono ?_; rintro e w5 ⟨b5, cap5, l5, rfl, h53, h56, hz5, hb5, ho5, hs5, hk5⟩; have H53 := Lib.hid h53; have H56 := Lib.hid h56; have HZ5 := Lib.hid hz5; have hb5' : wo.heap.size ≤ b5 := hb5; have HO5 := Lib.hid ho5; have HS5 := Lib.hid hs5; have HK5 := Lib.hid hk5; have d1 := OwnC.cell (hk5.src (OwnC.drewN HO.out 1) hBp) 1; have g1 := OwnC.free (hk5.src (OwnC.drewN HO.out 1) hBp) 1; simp at d1; have z5 : wo.heap.size ≤ w5.heap.size := hk5.size; have HL5 := Lib.hid (LsAt.far HL.out ((Far.refl _ _ _).trans (hk5.far (a := w.heap.size + 3) (b := wo.heap.size) (Nat.le_refl _) (.inr (by omega))))); have hlt5 := ho5.1.lt; have n5 : w.heap.size + 2 < w5.heap.size := (by omega); have n5' : ¬ w.heap.size + 2 = w5.heap.size := (by omega); clear h53 h56 hz5 hb5 ho5 hs5 hk5)
        | (refine step_appL rfl (.tmp 17) (.tmp 20) 24 rfl 58 (.slice none 0 0) 24 Try.underlying24 infoSl rfl (by decide) w5 (w.heap.size + 3) wo.heap.size ao cap k ls b5 cap5 l5.length w5.heap.size l5 (by simp [Act.eval]) HKL.out (by simp [Act.eval]) rfl HL5.out HO5.out rfl hb5' hBz hlt5 z5 (by have := HKL.out; omega) ?_ _ rfl; intro ao8 cap8 w8 hl8 hb8 hz8; have HL8 := Lib.hid hl8; have HB8 := Lib.hid hb8; have d8 := (hb8.cell (p := ⟨w.heap.size + 2, 1, none⟩) (by show w.heap.size + 2 < w.heap.size + 3; omega)).trans d1; have g8 := (hb8.frozen (p := ⟨w.heap.size + 2, 1, none⟩) (by show w.heap.size + 2 < w.heap.size + 3; omega)).trans g1; clear hl8 hb8))
      all_goals
        go_wp2_with fail
        have hk5 : Kept p (p + 1) w w5 := (HK.out.drewN' 1).trans HK5.out
        have hR8 : OwnC w8 w.heap.size #[.string ⟨#[]⟩, .slice none 0 0] 26 := OwnC.below (HK5.out.src (OwnC.drewN HR.out 1) (by omega)) HB8.out (by omega)
        have hO8 : OwnC w8 (w.heap.size + 2) #[.string nm, .slice ao k cap] 26 := OwnC.below (HK5.out.src (OwnC.drewN HO.out 1) hBp) HB8.out (by omega)
        have hS8 := HS5.out.far ((Far.below HB8.out (show p + 1 ≤ w.heap.size + 3 by omega)).set ⟨w.heap.size + 2, 1, none⟩ (.slice ao8 (k + 1) cap8) (.inr (by show p + 1 ≤ w.heap.size + 2; omega)))
        refine ⟨⟨k + 1, s - 1, cap8, ao8, ls ++ [l5], by simp [HKL.out], by omega, by go_num, Lib.hid fun l hl => ?_, Lib.hid (hR8.other _ _ (by show w.heap.size ≠ w.heap.size + 2; omega)), Lib.hid ((hO8.set 1 _).congr (by simp)), ?_, by simp; omega, Lib.hid (hS8.mono (by omega)), Lib.hid ((hk5.on HB8.out (by omega)).setNew (by show w.heap.size ≤ w.heap.size + 2; omega) _)⟩, by simp [intOf]; omega⟩
        · rcases List.mem_append.1 hl with hl | hl
          · exact HZ.out l hl
          · obtain rfl : l = l5 := by simpa using hl
            exact ⟨H53.out, H56.out, HZ5.out⟩
        · have := LsAt.far HL8.out ((Far.refl (w.heap.size + 3) w8.heap.size w8).set ⟨w.heap.size + 2, 1, none⟩ (.slice ao8 (k + 1) cap8) (.inl (by show w.heap.size + 2 < w.heap.size + 3; omega)))
          exact Lib.hid (by simpa using this)
    · have hs0 : s = 0 := by omega
      subst hs0
      have c0 := HO.out.cell 0
      have c1 := HO.out.cell 1
      have r0 := HR.out.cell 0
      have r1 := HR.out.cell 1
      have f0 := HR.out.free 0
      have f1 := HR.out.free 1
      simp at c0 c1 r0 r1
      go_wp2_with fail
      have v2 := res_two HR.out (.string nm) (.slice ao k cap)
      have q0 := v2.1
      have q1 := v2.2
      clear v2
      refine bodyPost_ret (v := .agg #[.string nm, .slice ao k cap]) (by simp [results, Try.results19, go_sem, q0, q1]) rfl ⟨⟨nm, ls, ao, cap, by rw [HKL.out], good_of HN.out (by have := HKL.out; omega) (by have := HKL.out; omega) HZ.out, HZ.out, by have := HKL.out; omega, ?_⟩, ?_, ?_⟩
      · have f2 := LsAt.far HL.out (((Far.refl (w.heap.size + 3) wr.heap.size wr).set ⟨w.heap.size, 0, none⟩ (.string nm) (.inl (by show w.heap.size < _; omega))).set ⟨w.heap.size, 1, none⟩ (.slice ao k cap) (.inl (by show w.heap.size < _; omega)))
        exact LsAt.mono (LsAt.low f2 (by omega)) (by simp)
      · exact (HS.out.far (((Far.refl 0 (p + 1) wr).set ⟨w.heap.size, 0, none⟩ (.string nm) (.inr (by show p + 1 ≤ w.heap.size; omega))).set ⟨w.heap.size, 1, none⟩ (.slice ao k cap) (.inr (by show p + 1 ≤ w.heap.size; omega)))).mono (by omega)
      · exact (HK.out.setNew (Nat.le_refl _) _).setNew (Nat.le_refl _) _
end Go.Proofs.Ytgghhnglnklmbaa

/- impl.hullSide walked. -/
import Derived.Test.YtkpjhoiaegioeaaHuK
namespace Go.Fl
open Go.RowKit
def popC (z : Cx) : List Cx → List Cx
  | b :: a :: r => if 0 < turnZ (hz a) (hz b) (hz z) then b :: a :: r else popC z (a :: r)
  | s => s
def foldC (L s : List Cx) : List Cx := L.foldl (fun st z => z :: popC z st) s
def sideC (L : List Cx) : List Cx := (foldC L []).tail.reverse
theorem popC_map (z : Cx) : ∀ s : List Cx, (popC z s).map hz = popZ (hz z) (s.map hz)
  | [] => rfl
  | [_] => rfl
  | b :: a :: r => by
    show _ = popZ (hz z) (hz b :: hz a :: r.map hz)
    unfold popC popZ
    split
    · rfl
    · exact popC_map z (a :: r)
theorem foldC_map : ∀ (L s : List Cx), (foldC L s).map hz = (L.map hz).foldl (fun st z => z :: popZ z st) (s.map hz)
  | [], _ => rfl
  | z :: L, s => by
    have := foldC_map L (z :: popC z s)
    rw [List.map_cons, popC_map] at this
    exact this
theorem sideC_map (L : List Cx) : (sideC L).map hz = sideZ (L.map hz) := by
  unfold sideC sideZ stackZ
  rw [List.map_reverse, List.map_tail, foldC_map]; rfl
theorem popC_sub (z : Cx) : ∀ (s : List Cx) (p : Cx), p ∈ popC z s → p ∈ s
  | [], _, h => h
  | [_], _, h => h
  | b :: a :: r, p, h => by
    unfold popC at h
    split at h
    · exact h
    · exact List.mem_cons_of_mem _ (popC_sub z (a :: r) p h)
theorem foldC_sub : ∀ (L s : List Cx) (p : Cx), p ∈ foldC L s → p ∈ L ∨ p ∈ s
  | [], _, _, h => .inr h
  | z :: L, s, p, h => by
    rcases foldC_sub L _ p h with h | h
    · exact .inl (List.mem_cons_of_mem _ h)
    · rcases List.mem_cons.1 h with rfl | h
      · exact .inl (List.mem_cons_self ..)
      · exact .inr (popC_sub z s p h)
theorem foldC_snoc (L : List Cx) (z : Cx) : foldC (L ++ [z]) [] = z :: popC z (foldC L []) := by unfold foldC; rw [List.foldl_append]; rfl
theorem popC_len (z : Cx) : ∀ s : List Cx, (popC z s).length ≤ s.length
  | [] => Nat.le_refl _
  | [_] => Nat.le_refl _
  | b :: a :: r => by
    unfold popC
    split
    · exact Nat.le_refl _
    · exact Nat.le_trans (popC_len z (a :: r)) (Nat.le_succ _)
theorem foldC_len : ∀ (L s : List Cx), (foldC L s).length ≤ L.length + s.length
  | [], s => by show s.length ≤ 0 + s.length; omega
  | z :: L, s => by
    have h1 := foldC_len L (z :: popC z s)
    have h2 := popC_len z s
    simp only [List.length_cons] at h1 ⊢
    exact Nat.le_trans h1 (by omega)
theorem popC_stop {z : Cx} {s : List Cx} (h : s.length < 2) : popC z s = s := by
  match s, h with
  | [], _ => rfl
  | [_], _ => rfl
theorem ORow.cap {w : World} {e : TypeId} {b cap n : Nat} {cs : List Value} (h : ORow w e 1 b cap n cs) : n ≤ cap := by
  obtain ⟨hl, hr⟩ := h
  rcases hr with ⟨hn, _⟩ | ⟨g, c, cur, hv, hb, hg, h1, h2, h3, h4⟩
  · cases hn
  · obtain ⟨e1, e2, e3⟩ := Value.slice.inj hv
    rw [e3]; exact h1
/-- a row cut short -/
theorem ORow.cut {w : World} {e : TypeId} {b cap n : Nat} {cs : List Value} {x : Value} (h : ORow w e 1 b cap (n + 1) (cs ++ [x])) : ORow w e 1 b cap n cs := by
  obtain ⟨hl, hr⟩ := h
  rw [List.length_append, List.length_singleton] at hl
  refine ⟨by omega, ?_⟩
  rcases hr with ⟨hn, _⟩ | ⟨g, c, cur, hv, hb, hg, h1, h2, h3, h4⟩
  · cases hn
  · obtain ⟨e1, e2, e3⟩ := Value.slice.inj hv
    refine .inr ⟨g, c, cur, by rw [e1, e3], hb, hg, by omega, h2, h3, ?_⟩
    have : cur.toList.take (n * 1) = (cur.toList.take ((n + 1) * 1)).take (n * 1) := by rw [List.take_take]; congr 1; omega
    rw [this, h4, List.take_append_of_le_length (by omega), List.take_of_length_le (by omega)]
theorem turn_good {a b z : Cx} (ha : goodP a) (hb : goodP b) (hz' : goodP z) : nN (minusF b a) ∧ nN (minusF z a) ∧ crossN (minusF b a) (minusF z a) ∧ (FloatKind.f32.format.order (crossF (minusF b a) (minusF z a)) 0 == some .gt) = decide (0 < turnZ (hz a) (hz b) (hz z)) := by
  have l8 : ∀ {p : Zp}, low p 8 → low p 4194304 := fun h => h.mono (by decide)
  have p1 := hb.1.minus ha.1 (l8 hb.2) (l8 ha.2)
  have p2 := hz'.1.minus ha.1 (l8 hz'.2) (l8 ha.2)
  have b1 : low (subZ (hz b) (hz a)) 16 := low.sub hb.2 ha.2 (by decide)
  have b2 : low (subZ (hz z) (hz a)) 16 := low.sub hz'.2 ha.2 (by decide)
  have mb : ∀ {x y : Int}, x.natAbs ≤ 16 → y.natAbs ≤ 16 → (x * y).natAbs ≤ 256 := fun {x y} h1 h2 => by
    rw [Int.natAbs_mul]; exact Nat.mul_le_mul h1 h2
  have m1 := mb b1.1 b2.2
  have m2 := mb b1.2 b2.1
  have q1 := p1.1.mul p2.2 (lt24 (by omega)) (by decide)
  have q2 := p1.2.mul p2.1 (lt24 (by omega)) (by decide)
  have q3 := q1.sub q2 (lt24 (by omega))
  refine ⟨⟨p1.1.num, p1.2.num⟩, ⟨p2.1.num, p2.2.num⟩, ⟨q1.num, q2.num, q3.num⟩, ?_⟩
  have z0 : Q .f32 0 0 2 := ⟨zero_N.1, by rw [zero_N.2, Int.zero_mul], by decide⟩
  show (FloatKind.f32.format.order (fop .sub .f32 _ _) 0 == some .gt) = _
  rw [q3.order z0]
  unfold turnZ crossZ
  obtain ⟨k, hk⟩ : ∃ k, k = (subZ (hz b) (hz a)).1 * (subZ (hz z) (hz a)).2 - (subZ (hz b) (hz a)).2 * (subZ (hz z) (hz a)).1 := ⟨_, rfl⟩
  rw [← hk]
  cases h : compare k 0
  · rw [Int.compare_eq_lt] at h; simp; omega
  · rw [Int.compare_eq_eq] at h; simp [h]
  · rw [Int.compare_eq_gt] at h; simp [h]
end Go.Fl
namespace Go.Proofs.Ytkpjhoiaegioeaa
open Go.RowKit Go.Fl

set_option maxHeartbeats 4000000 in
set_option maxRecDepth 100000 in
theorem hullSideC (lo hi b c n : Nat) (zs : List Cx) (hn : zs.length = n) (h1 : 1 ≤ n) (h19 : n ≤ 19) (hok : ∀ z, z ∈ zs → goodP z) (w : World) (hs : SlC w lo hi (some ⟨b, 0, none⟩) zs) (htop : hi ≤ w.heap.size) :
    Calls Try.prog 36 #[.slice (some ⟨b, 0, none⟩) n c] w fun e w' => (∃ g cap m, e = .returned (.slice (some ⟨g, 0, none⟩) m cap) ∧ m = (sideC zs).length ∧ w.heap.size ≤ g ∧ ORow w' 26 1 g cap m ((sideC zs).map cV)) ∧ Below w.heap.size w w' := by
  have HOK := Lib.hid hok
  have HN := Lib.hid hn
  obtain ⟨bS, hao, hb1, hb2, hc⟩ := hs (by omega)
  obtain rfl : b = bS := by simpa using hao
  have HCELL := Lib.hid (fun i (hi : i < n) => hc i (by omega))
  have hbw : b < w.heap.size := by omega
  clear hs hn hc hok hao
  go_enter Try.func36, Try.ntmps36
  go_wp2_with fail
  go_loopw [3, 12] (fun o i wr => ∃ (k m g cap : Nat), k ≤ n ∧ i = .int .i64 k ∧ o = .slice (some ⟨g, 0, none⟩) m cap ∧ Hid (m = (foldC (zs.take k) []).length) ∧ m ≤ k ∧ w.heap.size ≤ g ∧ Hid (ORow wr 26 1 g cap m ((foldC (zs.take k) []).reverse.map cV)) ∧ Hid (Below w.heap.size w wr)) (fun _ i _ => n - (intOf i).toNat)
  case atStart => exact ⟨0, 0, w.heap.size, 0, by omega, rfl, rfl, Lib.hid rfl, Nat.le_refl _, Nat.le_refl _, Lib.hid (ORow.new _ _ _), Lib.hid (Below.alloc (Below.refl _ _) (Nat.le_refl _) _)⟩
  case round =>
    obtain ⟨k, m0, g, cap, hk, rfl, rfl, HM0, hmk, hg, HR, HB⟩ := hrel
    by_cases hlt : k < n
    · have hcell := (HB.out.cell (p := ⟨b, k, none⟩) (by show b < w.heap.size; omega)).trans (HCELL.out k hlt)
      have k0 : (0 : Int) ≤ (k : Int) := by omega
      have k1 : (k : Int) < (n : Int) := by omega
      obtain ⟨z, hz'⟩ : ∃ z, z = cAt zs k := ⟨_, rfl⟩
      have gz : goodP z := HOK.out _ (mem_cAt.2 ⟨k, by rw [HN.out]; exact hlt, hz'.symm⟩)
      have htk : zs.take (k + 1) = zs.take k ++ [z] := by
        rw [List.take_succ_eq_append_getElem (by rw [HN.out]; exact hlt), hz']; simp [cAt, HN.out, hlt]
      rw [← hz'] at hcell
      have gs : ∀ p, p ∈ foldC (zs.take k) [] → goodP p := fun p hp => by
        rcases foldC_sub _ _ p hp with h | h
        · exact HOK.out p (List.mem_of_mem_take h)
        · cases h
      obtain ⟨s0, hs0⟩ : ∃ s, s = foldC (zs.take k) [] := ⟨_, rfl⟩
      have HNX := Lib.hid (show foldC (zs.take (k + 1)) [] = z :: popC z s0 by rw [htk, foldC_snoc, hs0])
      rw [← hs0] at HR HM0 gs
      have GS := Lib.hid gs
      have GZ := Lib.hid gz
      unfold cV at hcell
      clear gs gz htk hs0 hz'
      go_wp2_with fail
      go_loopw [3, 6] (fun o i wr => ∃ (m cap : Nat) (s : List Cx), i = .int .i64 m ∧ o = .slice (some ⟨g, 0, none⟩) m cap ∧ Hid (m = s.length) ∧ m ≤ k ∧ Hid (popC z s = popC z s0) ∧ Hid (∀ p, p ∈ s → p ∈ s0) ∧ Hid (ORow wr 26 1 g cap m (s.reverse.map cV)) ∧ Hid (Below w.heap.size w wr)) (fun _ i _ => (intOf i).toNat)
      case atStart => exact ⟨m0, cap, s0, rfl, rfl, HM0, hmk, Lib.hid rfl, Lib.hid (fun _ h => h), HR, HB⟩
      case round =>
        clear HM0 HR HB hmk
        obtain ⟨m, cap, s, rfl, rfl, HM, hmk, HP, HSB, HR, HB⟩ := hrel
        by_cases hm2 : 2 ≤ m
        · have hm2' : (2 : Int) ≤ (m : Int) := by omega
          obtain ⟨q1, q0, r, hs⟩ : ∃ q1 q0 r, s = q1 :: q0 :: r := by
            have hm := HM.out
            match s, hm with
            | [], hm => simp at hm; omega
            | [_], hm => simp at hm; omega
            | q1 :: q0 :: r, _ => exact ⟨q1, q0, r, rfl⟩
          subst hs
          obtain ⟨j1, hj1⟩ : ∃ j, j = m - 1 := ⟨_, rfl⟩
          obtain ⟨j0, hj0⟩ : ∃ j, j = m - 2 := ⟨_, rfl⟩
          have hml : m = r.length + 2 := HM.out
          have d1 : wr.cell? ⟨g, j1, none⟩ = some (cV q1) := by
            rw [HR.out.cell j1 (by omega), hj1, hml]
            simp
          have d0 : wr.cell? ⟨g, j0, none⟩ = some (cV q0) := by
            rw [HR.out.cell j0 (by omega), hj0, hml]
            simp
          obtain ⟨t1, t2, t3, t4⟩ := turn_good (GS.out q0 (HSB.out q0 (by simp))) (GS.out q1 (HSB.out q1 (by simp))) GZ.out
          have T1 := Lib.hid (fun W => minusN t1 W)
          have T2 := Lib.hid (fun W => minusN t2 W)
          have T3 := Lib.hid (fun W => crossNR t3 W)
          have a1 : IntKind.i64.wrap ((m : Int) - 1) = (j1 : Int) := by rw [IntKind.wrap_i64]; omega
          have a0 : IntKind.i64.wrap ((m : Int) - 2) = (j0 : Int) := by rw [IntKind.wrap_i64]; omega
          have a2 : (m : Int) - 1 = (j1 : Int) := by omega
          have a3 : (m : Int) - 2 = (j0 : Int) := by omega
          have b1 : (0 : Int) ≤ (j1 : Int) := by omega
          have b2 : (j1 : Int) < (m : Int) := by omega
          have b3 : (0 : Int) ≤ (j0 : Int) := by omega
          have b4 : (j0 : Int) < (m : Int) := by omega
          have hcap := HR.out.cap
          have b5 : (j1 : Int) ≤ (cap : Int) := by omega
          have HJ := Lib.hid hj1
          unfold cV at d1 d0
          clear t1 t2 t3 hj1 hj0 hml
          by_cases ht : 0 < turnZ (hz q0) (hz q1) (hz z)
          · rw [decide_eq_true ht] at t4
            obtain ⟨CR, hCR⟩ : ∃ c, c = crossF (minusF q1 q0) (minusF z q0) := ⟨_, rfl⟩
            rw [← hCR] at t4 T3
            clear hCR
            go_wp2_with fail
            go_quiet (fail)
            go_wp2_with fail
            refine (T1.out _).mono ?_
            rintro e w5 ⟨rfl, hw5⟩
            subst hw5
            go_wp2_with fail
            refine (T2.out _).mono ?_
            rintro e w5 ⟨rfl, hw5⟩
            subst hw5
            go_wp2_with fail
            refine (T3.out _).mono ?_
            rintro e w5 ⟨rfl, hw5⟩
            subst hw5
            have HFC := Lib.hid (show foldC (zs.take (k + 1)) [] = z :: q1 :: q0 :: r by rw [HNX.out, ← HP.out]; unfold popC; rw [if_pos ht])
            have HRD := Lib.hid (show ORow (wr.drewN nq) 26 1 g cap m ((q1 :: q0 :: r).reverse.map cV) from HR.out.far (lo := 0) (hi := wr.heap.size) ((Far.refl _ _ _).drewN nq) (Nat.zero_le _) HR.out.lt)
            go_wp2_with (first | (at_builtin; refine wpList_appC rfl _ _ rfl (wr.drewN nq) _ [z] rfl (by simp) (by simp) _ _ _ _ _ _ _ _ rfl rfl rfl rfl HRD.out (by omega) ?_; intro b6 cap6 w6 hr6 hbb6 hgr6; have HR6 := Lib.hid hr6; have HB6 := Lib.hid hbb6; have HG6 := Lib.hid hgr6; clear hr6 hbb6 hgr6))
            have hzw := HB.out.size
            have hb6 : b6 = g ∨ wr.heap.size < b6 := HB6.out
            have hgB := HG6.out.below (B := w.heap.size) hg (by show w.heap.size ≤ wr.heap.size; exact hzw)
            have HRF := Lib.hid (show ORow w6 26 1 b6 cap6 (m + 1) ((foldC (zs.take (k + 1)) []).reverse.map cV) by rw [HFC.out, List.reverse_cons]; exact HR6.out)
            have HMF := Lib.hid (show m + 1 = (foldC (zs.take (k + 1)) []).length by rw [HFC.out, List.length_cons, ← HM.out])
            have HBF := Lib.hid (Below.trans (below_dr HB.out nq) hgB)
            exact ⟨⟨k + 1, m + 1, b6, cap6, by omega, by go_num, rfl, HMF, by omega, by omega, HRF, HBF⟩, meas_upI k1⟩
          · rw [decide_eq_false ht] at t4
            obtain ⟨CR, hCR⟩ : ∃ c, c = crossF (minusF q1 q0) (minusF z q0) := ⟨_, rfl⟩
            rw [← hCR] at t4 T3
            clear hCR
            go_wp2_with fail
            go_quiet (fail)
            go_wp2_with fail
            refine (T1.out _).mono ?_
            rintro e w5 ⟨rfl, hw5⟩
            subst hw5
            go_wp2_with fail
            refine (T2.out _).mono ?_
            rintro e w5 ⟨rfl, hw5⟩
            subst hw5
            go_wp2_with fail
            refine (T3.out _).mono ?_
            rintro e w5 ⟨rfl, hw5⟩
            subst hw5
            go_wp2_with fail
            have hj := HJ.out
            refine ⟨⟨j1, cap, q0 :: r, rfl, rfl, Lib.hid (by have := HM.out; simp at this ⊢; omega), by omega, Lib.hid ?_, Lib.hid (fun p hp => HSB.out p (List.mem_cons_of_mem _ hp)), Lib.hid ?_, Lib.hid (below_dr HB.out nq)⟩, ?_⟩
            · rw [← HP.out]
              conv => rhs; unfold popC
              rw [if_neg (show ¬ 0 < turnZ (hz q0) (hz q1) (hz z) by omega)]
            · have h9 : ORow wr 26 1 g cap (j1 + 1) ((q0 :: r).reverse.map cV ++ [cV q1]) := by
                have h8 := HR.out
                rw [List.reverse_cons, List.map_append] at h8
                rw [show j1 + 1 = m by omega]
                exact h8
              exact h9.cut.far (lo := 0) (hi := wr.heap.size) ((Far.refl _ _ _).drewN nq) (Nat.zero_le _) HR.out.lt
            · simp [intOf]; omega
        · have hm2' : ¬ (2 : Int) ≤ (m : Int) := by omega
          have HFC := Lib.hid (show foldC (zs.take (k + 1)) [] = z :: s by rw [HNX.out, ← HP.out, popC_stop (by have := HM.out; omega)])
          go_wp2_with (first | (at_builtin; refine wpList_appC rfl _ _ rfl wr _ [z] rfl (by simp) (by simp) _ _ _ _ _ _ _ _ rfl rfl rfl rfl HR.out (by omega) ?_; intro b6 cap6 w6 hr6 hbb6 hgr6; have HR6 := Lib.hid hr6; have HB6 := Lib.hid hbb6; have HG6 := Lib.hid hgr6; clear hr6 hbb6 hgr6))
          have hzw := HB.out.size
          have hb6 : b6 = g ∨ wr.heap.size < b6 := HB6.out
          have hgB := HG6.out.below (B := w.heap.size) hg (by show w.heap.size ≤ wr.heap.size; exact hzw)
          have HRF := Lib.hid (show ORow w6 26 1 b6 cap6 (m + 1) ((foldC (zs.take (k + 1)) []).reverse.map cV) by rw [HFC.out, List.reverse_cons]; exact HR6.out)
          have HMF := Lib.hid (show m + 1 = (foldC (zs.take (k + 1)) []).length by rw [HFC.out, List.length_cons, ← HM.out])
          have HBF := Lib.hid (Below.trans HB.out hgB)
          exact ⟨⟨k + 1, m + 1, b6, cap6, by omega, by go_num, rfl, HMF, by omega, by omega, HRF, HBF⟩, meas_upI k1⟩
    · have hkn : k = n := by omega
      subst hkn
      have k1 : ¬ (k : Int) < (k : Int) := by omega
      have htk : zs.take k = zs := List.take_of_length_le (by rw [HN.out]; exact Nat.le_refl _)
      rw [htk] at HM0 HR
      obtain ⟨z, s, hs⟩ : ∃ z s, foldC zs [] = z :: s := by
        rcases List.eq_nil_or_concat zs with h | ⟨L, x, h⟩
        · exfalso; have := HN.out; rw [h] at this; simp at this; omega
        · have h' : zs = L ++ [x] := by simpa using h
          rw [h', foldC_snoc]
          exact ⟨_, _, rfl⟩
      rw [hs] at HM0 HR
      have HSC := Lib.hid (show sideC zs = s.reverse by unfold sideC; rw [hs]; rfl)
      obtain ⟨j1, hj1⟩ : ∃ j, j = m0 - 1 := ⟨_, rfl⟩
      have hml : m0 = s.length + 1 := HM0.out
      have hcap := HR.out.cap
      have a1 : (m0 : Int) - 1 = (j1 : Int) := by omega
      have b5 : (j1 : Int) ≤ (cap : Int) := by omega
      have b1 : (0 : Int) ≤ (j1 : Int) := by omega
      have HJ := Lib.hid (show j1 = s.length by omega)
      have HRC := Lib.hid (show ORow wr 26 1 g cap j1 (s.reverse.map cV) from ORow.cut (x := cV z) (by
        have h8 := HR.out
        rw [List.reverse_cons, List.map_append] at h8
        rw [show j1 + 1 = m0 by omega]
        exact h8))
      clear hj1 hml hcap htk hs
      go_wp2_with fail
      go_ret
      exact ⟨⟨g, cap, j1, rfl, by rw [HSC.out, List.length_reverse, HJ.out], hg, by rw [HSC.out]; exact HRC.out⟩, HB.out⟩
end Go.Proofs.Ytkpjhoiaegioeaa

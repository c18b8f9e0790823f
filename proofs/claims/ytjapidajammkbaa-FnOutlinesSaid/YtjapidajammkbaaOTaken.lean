/- impl.taken: an outline read in front of a text. -/
import Derived.Test.YtjapidajammkbaaOTk2
import Derived.Test.YtjapidajammkbaaOMem
namespace Go.Fl
open Go.RowKit
theorem own_grew {w w' : World} {t b : Nat} {cs : Array Value} {T : TypeId} (h : OwnC w b cs T) (hg : Grew t w w') (hne : b ≠ t) : OwnC w' b cs T := (hg.block b h.lt hne).trans h
theorem below_grew {B t : Nat} {a w w' : World} (h : Below B a w) (hg : Grew t w w') (ht : B ≤ t) (hB : B ≤ a.heap.size) : Below B a w' := h.trans (hg.below ht (Nat.le_trans hB h.size))
theorem far_grew {w w' : World} {t lo hi : Nat} (hg : Grew t w w') (h1 : t < lo) (h2 : hi ≤ w.heap.size) : Far lo hi w w' := hg.far h2 (.inr h1)
theorem rd_mark {s : ByteArray} (h : Rd s) : (s.extract 0 4).toList = [79, 85, 84, 49] := by
  obtain ⟨⟨h1, h2, h3⟩, _, h4⟩ := h
  have h5 : (⟨(stoB (pNm s) (pLps s (pLoops s))).toArray⟩ : ByteArray).data.toList = (s.extract 0 (qAt s (pLoops s) + 2)).data.toList := by rw [h4]
  rw [Lib.extract_data] at h5
  rw [ByteArray.toList_eq, Lib.extract_data]
  have h6 : (stoB (pNm s) (pLps s (pLoops s))).take 4 = [79, 85, 84, 49] := by simp [stoB, preB]
  have h7 : (⟨(stoB (pNm s) (pLps s (pLoops s))).toArray⟩ : ByteArray).data.toList = stoB (pNm s) (pLps s (pLoops s)) := by simp
  rw [h7] at h5
  rw [h5] at h6
  have h8 := qAt_mono s (Nat.zero_le (pLoops s))
  simp only [qAt] at h8
  rw [List.drop_zero, Nat.sub_zero, List.take_take, Nat.min_eq_left (by omega)] at h6
  simpa using h6
theorem lpAt_pLps (s : ByteArray) {i k : Nat} (h : i < k) : lpAt (pLps s k) i = pPts s i (bN s (qAt s i)) := by
  simp [lpAt, pLps, h]
theorem pLps_sm (s : ByteArray) (k : Nat) : Sm (pLps s k) := fun i hi q hq => by
  rw [pLps_len] at hi
  rw [lpAt_pLps s hi] at hq ⊢
  rw [pPts_len] at hq
  have : cAt (pPts s i (bN s (qAt s i))) q = (w32 s (qAt s i + 1 + 8 * q), w32 s (qAt s i + 1 + 8 * q + 4)) := by simp [cAt, pPts, hq]
  rw [this]
  exact ⟨w32_lt _ _, w32_lt _ _⟩
theorem pLps_short (s : ByteArray) (k : Nat) : ∀ i, i < (pLps s k).length → (lpAt (pLps s k) i).length ≤ 1048576 := fun i hi => by
  rw [pLps_len] at hi
  rw [lpAt_pLps s hi, pPts_len]
  have := bN_le s (qAt s i)
  omega
theorem OwnC1.slC {w : World} {g lo hi : Nat} {l : List Cx} (h : OwnC1 w g l) (h1 : lo ≤ g) (h2 : g < hi) : SlC w lo hi (some ⟨g, 0, none⟩) l := fun _ => ⟨g, rfl, h1, h2, h.2⟩
theorem LsAt.slL {w : World} {T : TypeId} {base top cap : Nat} {ao : Option Addr} {ls : List (List Cx)} (h : LsAt w T base top ao cap ls) : SlL w base top ao ls := fun hp => by
  rcases h with ⟨rfl, _⟩ | ⟨b, g, c, rfl, h1, h2, h3, h4⟩
  · exact absurd hp (Nat.lt_irrefl 0)
  · refine ⟨b, rfl, h1, h2, fun i hi => ?_⟩
    obtain ⟨a1, a2, a3, a4, a5⟩ := h4 i hi
    refine ⟨some ⟨g i, 0, none⟩, c i, ?_, a4.slC a1 a2⟩
    rw [h3.cell i (by omega)]
    simp [hdrs, hi]
theorem LsAt.low {w : World} {T : TypeId} {base base' top cap : Nat} {ao : Option Addr} {ls : List (List Cx)} (h : LsAt w T base top ao cap ls) (ht : base' ≤ base) : LsAt w T base' top ao cap ls := by
  rcases h with h | ⟨b, g, c, rfl, h1, h2, h3, h4⟩
  · exact .inl h
  · exact .inr ⟨b, g, c, rfl, by omega, h2, h3, fun i hi => by
      obtain ⟨a1, a2, a3, a4, a5⟩ := h4 i hi
      exact ⟨by omega, a2, a3, a4, a5⟩⟩
theorem Rd.ok {s : ByteArray} (h : Rd s) : okOut (pNm s) (pLps s (pLoops s)) := h.2.1
/-- a result block of two cells, both set -/
theorem res_two {w : World} {b : Nat} {c0 c1 : Value} {T : TypeId} (h : OwnC w b #[c0, c1] T) (u0 u1 : Value) :
    ((w.setCell ⟨b, 0, none⟩ u0).setCell ⟨b, 1, none⟩ u1).cell? ⟨b, 0, none⟩ = some u0 ∧ ((w.setCell ⟨b, 0, none⟩ u0).setCell ⟨b, 1, none⟩ u1).cell? ⟨b, 1, none⟩ = some u1 := by
  have h2 := (h.set 0 u0).set 1 u1
  exact ⟨by rw [h2.cell]; simp, by rw [h2.cell]; simp⟩
/-- what is known where k loops have been read -/
def CondO (s : ByteArray) (sh : Bool) (a k c : Nat) (nm : ByteArray) (ls : List (List Cx)) : Prop :=
  (sh = false → 6 + pName s ≤ s.size ∧ nm = pNm s ∧ a = qAt s k ∧ ls = pLps s k ∧ c = pLoops s ∧ ∀ i, i < k → pFits s i) ∧ (sh = true → ¬ POk s)
/-- .. and q points of loop k -/
def CondI (s : ByteArray) (sh : Bool) (a k c q m : Nat) (nm : ByteArray) (ls : List (List Cx)) (pts : List Cx) : Prop :=
  (sh = false → 6 + pName s ≤ s.size ∧ nm = pNm s ∧ a = qAt s k + 1 + 8 * q ∧ ls = pLps s k ∧ c = pLoops s ∧ (∀ i, i < k → pFits s i) ∧ m = bN s (qAt s k) ∧ qAt s k + 1 ≤ s.size ∧ pts = pPts s k q) ∧ (sh = true → ¬ POk s)
theorem CondI.start {s nm : ByteArray} {sh sh' : Bool} {a a' k c m : Nat} {ls : List (List Cx)} (h : CondO s sh a k c nm ls) (hk : k < c) (h1 : sh' = false → sh = false ∧ a' = a + 1 ∧ a + 1 ≤ s.size ∧ m = bN s a) (h2 : sh' = true → sh = true ∨ s.size < a + 1) : CondI s sh' a' k c 0 m nm ls [] := by
  refine ⟨fun e => ?_, fun e hp => ?_⟩
  · obtain ⟨e1, e2, e3, e4⟩ := h1 e
    obtain ⟨q1, q2, q3, q4, q5, q6⟩ := h.1 e1
    subst q3
    exact ⟨q1, q2, by omega, q4, q5, q6, e4, e3, rfl⟩
  · rcases h2 e with e1 | e1
    · exact h.2 e1 hp
    · cases hsh : sh
      · obtain ⟨q1, q2, q3, q4, q5, q6⟩ := h.1 hsh
        subst q3
        have := hp.2.1 k (by omega)
        unfold pFits at this; omega
      · exact h.2 hsh hp
theorem CondI.step {s nm : ByteArray} {sh sh1 sh2 : Bool} {a a1 a2 k c q m x y : Nat} {ls : List (List Cx)} {pts : List Cx} (h : CondI s sh a k c q m nm ls pts) (hk : k < c) (hq : q < m)
    (h1 : sh1 = false → sh = false ∧ a1 = a + 4 ∧ x = w32 s a) (h2 : sh1 = true → sh = true ∨ s.size < a + 4)
    (h3 : sh2 = false → sh1 = false ∧ a2 = a1 + 4 ∧ y = w32 s a1) (h4 : sh2 = true → sh1 = true ∨ s.size < a1 + 4) : CondI s sh2 a2 k c (q + 1) m nm ls (pts ++ [(x, y)]) := by
  have n1 : sh1 = true → ¬ POk s := fun e hp => by
    rcases h2 e with e1 | e1
    · exact h.2 e1 hp
    · cases hsh : sh
      · obtain ⟨q1, q2, q3, q4, q5, q6, q7, q8, q9⟩ := h.1 hsh
        have := hp.2.1 k (by omega)
        unfold pFits at this; omega
      · exact h.2 hsh hp
  refine ⟨fun e => ?_, fun e hp => ?_⟩
  · obtain ⟨e1, e2, e3⟩ := h3 e
    obtain ⟨f1, f2, f3⟩ := h1 e1
    obtain ⟨q1, q2, q3, q4, q5, q6, q7, q8, q9⟩ := h.1 f1
    subst f2 e2 q3 e3 f3 q9
    exact ⟨q1, q2, by omega, q4, q5, q6, q7, q8, by rw [pPts_succ]⟩
  · rcases h4 e with e1 | e1
    · exact n1 e1 hp
    · cases hsh : sh1
      · obtain ⟨f1, f2, f3⟩ := h1 hsh
        obtain ⟨q1, q2, q3, q4, q5, q6, q7, q8, q9⟩ := h.1 f1
        have := hp.2.1 k (by omega)
        unfold pFits at this; omega
      · exact n1 hsh hp
theorem CondI.done {s nm : ByteArray} {sh : Bool} {a k c m : Nat} {ls : List (List Cx)} {pts : List Cx} (h : CondI s sh a k c m m nm ls pts) (ha : a ≤ s.size) : CondO s sh a (k + 1) c nm (ls ++ [pts]) := by
  refine ⟨fun e => ?_, h.2⟩
  obtain ⟨q1, q2, q3, q4, q5, q6, q7, q8, q9⟩ := h.1 e
  subst q3 q7 q9 q4
  refine ⟨q1, q2, rfl, by rw [pLps_succ], q5, fun i hi => ?_⟩
  rcases Nat.lt_succ_iff_lt_or_eq.1 hi with h1 | rfl
  · exact q6 i h1
  · exact ha
end Go.Fl
namespace Go.Proofs.Ytjapidajammkbaa
open Go.RowKit Go.Fl

theorem infoSl : (Try.prog.info? 44).map (fun i => (i.zero, i.size, i.bytes)) = some (some (.slice none 0 0), 1, 24) := by kernel_rfl
theorem infoCx : (Try.prog.info? 45).map (fun i => (i.zero, i.size, i.bytes)) = some (some (.complex .f32 0 0), 1, 8) := by kernel_rfl

/-- what both calls return -/
def RetO (s : ByteArray) (w : World) (e : Ending) (w' : World) : Prop :=
  (∃ ao cap nm ls n, RdJ s nm ls n ∧ e = .returned (.tuple #[.agg #[.string nm, .slice ao (List.length ls) cap], .int .i64 (n : Nat)]) ∧ LsAt w' 44 w.heap.size w'.heap.size ao cap ls) ∧ Below w.heap.size w w'
theorem RetO.none {s : ByteArray} {w w' : World} (h : ¬ Rd s) (hb : Below w.heap.size w w') : RetO s w (.returned (.tuple #[.agg #[.string ⟨#[]⟩, .slice none 0 0], .int .i64 0])) w' :=
  ⟨⟨Option.none, 0, ⟨#[]⟩, [], 0, .inr ⟨h, rfl, rfl, rfl⟩, rfl, LsAt.nil _ _ _ _⟩, hb⟩

set_option maxHeartbeats 2000000 in
set_option maxRecDepth 100000 in
theorem taken (s : ByteArray) (hs : s.size ≤ 1048576) (w : World) :
    Calls Try.prog 19 #[.string s] w (RetO s w) := by
  have R0 : OwnC (w.alloc (.cells #[.string ⟨#[]⟩, .slice none 0 0] 31)) w.heap.size #[.string ⟨#[]⟩, .slice none 0 0] 31 := OwnC.new rfl
  have T0 : TkAt 75 ((w.alloc (.cells #[.string ⟨#[]⟩, .slice none 0 0] 31)).alloc (.cells #[.string s, .int .i64 0, .bool false] 75)) (w.heap.size + 1) s 0 false := OwnC.new (by simp)
  have HR0 := Lib.hid (R0.alloc (.cells #[.string s, .int .i64 0, .bool false] 75))
  have HT0 := Lib.hid T0
  clear R0 T0
  go_enter Try.func19, Try.ntmps19
  go_wp2_with fail
  refine (takeA (w.heap.size + 1) s 0 4 false hs (by omega) (by decide) _ HT0.out).mono ?_
  rintro e w1 ⟨a1, sh1, x1, rfl, ht1, hg1, ha1, hx1, hy1, hn1⟩
  have HT1 := Lib.hid ht1
  have HR1 := Lib.hid (own_grew HR0.out hg1 (by omega))
  have HB1 := Lib.hid (below_grew (B := w.heap.size) (a := w) (show Below w.heap.size w _ from by (repeat (first | exact Below.refl _ _ | assumption | refine below_dr ?_ _ | refine Below.alloc ?_ (by first | omega | (simp; done) | (simp; omega)) _ | refine Below.setCell ?_ (by first | omega | (simp; done) | (simp; omega)) _ | refine Below.trans ?_ (Below.mono (by assumption) (by first | omega | (simp; done) | (simp; omega)))))) hg1 (by omega) (Nat.le_refl _))
  have z1 : w.heap.size + 2 ≤ w1.heap.size := by have := hg1.size; simpa using this
  have HY1 := Lib.hid hy1
  have HN1 := Lib.hid hn1
  clear HT0 HR0 ht1 hg1 hy1 hn1
  cases hq : (x1.toList == [79, 85, 84, 49])
  · have hno : ¬ Rd s := fun hr => by
      cases h : sh1
      · obtain ⟨_, _, e3⟩ := HY1.out h
        have := rd_mark hr
        rw [e3, Nat.zero_add, this] at hq
        simp at hq
      · rcases HN1.out h with h1 | h1
        · cases h1
        · have := hr.1.1; omega
    have HNO := Lib.hid hno
    have r0 := HR1.out.cell 0
    have r1 := HR1.out.cell 1
    have f0 := HR1.out.free 0
    have f1 := HR1.out.free 1
    simp at r0 r1
    clear hno
    go_wp2_with fail
    have v2 := res_two HR1.out (.string ⟨#[]⟩) (.slice none 0 0)
    have v0 := v2.1
    have v1 := v2.2
    clear v2
    refine bodyPost_ret (v := .tuple #[.agg #[.string ⟨#[]⟩, .slice none 0 0], .int .i64 0]) (by simp [results, Try.results19, go_sem, v0, v1]) rfl (RetO.none HNO.out ?_)
    exact (HB1.out.setCell (Nat.le_refl _) _).setCell (Nat.le_refl _) _
  · go_wp2_with fail
    refine (num1 (w.heap.size + 1) s a1 sh1 hs ha1 _ HT1.out).mono ?_
    rintro e w2 ⟨a2, sh2, x2, rfl, ht2, hg2, ha2, hx2, hy2, hn2⟩
    have HT2 := Lib.hid ht2
    have HR2 := Lib.hid (own_grew HR1.out hg2 (by omega))
    have HB2 := Lib.hid (below_grew HB1.out hg2 (by omega) (Nat.le_refl _))
    have z2 : w.heap.size + 2 ≤ w2.heap.size := by have := hg2.size; omega
    have HY2 := Lib.hid hy2
    have HN2 := Lib.hid hn2
    clear HT1 HR1 HB1 ht2 hg2 hy2 hn2
    go_wp2_with fail
    refine (takeA (w.heap.size + 1) s a2 x2 sh2 hs ha2 hx2 _ HT2.out).mono ?_
    rintro e w3 ⟨a3, sh3, nm, rfl, ht3, hg3, ha3, hx3, hy3, hn3⟩
    have HT3 := Lib.hid (show TkAt 75 (w3.alloc (.cells #[.string nm, .slice none 0 0] 31)) (w.heap.size + 1) s a3 sh3 from OwnC.alloc ht3 _)
    have HR3 := Lib.hid ((own_grew HR2.out hg3 (by omega)).alloc (.cells #[.string nm, .slice none 0 0] 31))
    have z3 : w.heap.size + 2 ≤ w3.heap.size := by have := hg3.size; omega
    have HB3 := Lib.hid (Below.alloc (below_grew HB2.out hg3 (by omega) (Nat.le_refl _)) (by omega) (.cells #[.string nm, .slice none 0 0] 31))
    have HO3 := Lib.hid (show OwnC (w3.alloc (.cells #[.string nm, .slice none 0 0] 31)) w3.heap.size #[.string nm, .slice none 0 0] 31 from OwnC.new rfl)
    have HY3 := Lib.hid hy3
    have HN3 := Lib.hid hn3
    clear HT2 HR2 HB2 ht3 hg3 hy3 hn3
    go_wp2_with fail
    refine (num1 (w.heap.size + 1) s a3 sh3 hs ha3 _ HT3.out).mono ?_
    rintro e w4 ⟨a4, sh4, c, rfl, ht4, hg4, ha4, hc, hy4, hn4⟩
    have HT4 := Lib.hid ht4
    have HR4 := Lib.hid (own_grew HR3.out hg4 (by omega))
    have HO4 := Lib.hid (own_grew HO3.out hg4 (by omega))
    have HB4 := Lib.hid (below_grew HB3.out hg4 (by omega) (Nat.le_refl _))
    have z4 : w3.heap.size + 1 ≤ w4.heap.size := by have := hg4.size; simpa using this
    have hco : CondO s sh4 a4 0 c nm [] := by
      refine ⟨fun e => ?_, fun e hp => ?_⟩
      · obtain ⟨p1, p2, p3, p4⟩ := hy4 e
        obtain ⟨q1, q2, q3⟩ := HY3.out p1
        obtain ⟨r1, r2, r3, r4⟩ := HY2.out q1
        obtain ⟨_, u2, u3⟩ := HY1.out r1
        subst u2
        rw [Nat.zero_add] at r2 r4
        subst r2
        have hpn : x2 = pName s := r4
        subst hpn
        subst q2
        refine ⟨by omega, by rw [q3]; rfl, by simp only [qAt]; omega, rfl, by rw [p4]; rfl, fun i h => absurd h (Nat.not_lt_zero _)⟩
      · have hp1 := hp.1
        have m1 : sh1 = true → False := fun h => by
          rcases HN1.out h with h | h
          · cases h
          · omega
        have f1 : sh1 = false := by cases h : sh1 <;> simp_all
        have f2 : sh2 = false := by
          cases h : sh2
          · rfl
          · rcases HN2.out h with h | h
            · exact (m1 h).elim
            · have := (HY1.out f1).2.1; omega
        have f3 : sh3 = false := by
          cases h : sh3
          · rfl
          · obtain ⟨r1, r2, r3, r4⟩ := HY2.out f2
            have u2 := (HY1.out f1).2.1
            subst u2
            rw [Nat.zero_add] at r2 r4
            have hpn : x2 = pName s := r4
            rcases HN3.out h with h | h
            · rw [f2] at h; cases h
            · omega
        rcases hn4 e with h | h
        · rw [f3] at h; cases h
        · obtain ⟨r1, r2, r3, r4⟩ := HY2.out f2
          have u2 := (HY1.out f1).2.1
          subst u2
          rw [Nat.zero_add] at r2 r4
          have hpn : x2 = pName s := r4
          have := (HY3.out f3).2.1
          omega
    have HC4 := Lib.hid hco
    clear HT3 HR3 HB3 HO3 HY1 HN1 HY2 HN2 HY3 HN3 ht4 hg4 hy4 hn4 hco
    have hcc : (c : Int) ≤ 255 := by omega
    go_wp2_with fail
    go_loopw [6, 7, 24, 29] (fun _ _ i _ wr => ∃ (k a cap : Nat) (sh : Bool) (ao : Option Addr) (ls : List (List Cx)), k ≤ c ∧ i = .int .i64 k ∧ ls.length = k ∧ a ≤ s.size ∧ Hid (TkAt 75 wr (w.heap.size + 1) s a sh) ∧ Hid (OwnC wr w.heap.size #[.string ⟨#[]⟩, .slice none 0 0] 31) ∧
      Hid (OwnC wr w3.heap.size #[.string nm, .slice ao k cap] 31) ∧ Hid (LsAt wr 44 w4.heap.size wr.heap.size ao cap ls) ∧ Hid (CondO s sh a k c nm ls) ∧ Hid (Below w.heap.size w wr) ∧ w4.heap.size ≤ wr.heap.size) (fun _ _ i _ _ => c - (intOf i).toNat)
    case atStart => exact ⟨0, a4, 0, sh4, none, [], by omega, rfl, rfl, ha4, HT4, HR4, HO4, LsAt.nil _ _ _ _, HC4, HB4, Nat.le_refl _⟩
    case round =>
      obtain ⟨k, a, cap, sh, ao, ls, hk, rfl, hlk, ha, HT, HR, HO, HL, HC, HW, hz⟩ := hrel
      obtain ⟨wo, hwo⟩ : ∃ x : World, x = wr := ⟨_, rfl⟩
      subst hwo
      by_cases hlt : k < c
      · have k0 : (0 : Int) ≤ (k : Int) := by omega
        have k1 : (k : Int) < (c : Int) := by omega
        go_wp2_with fail
        refine (num1 (w.heap.size + 1) s a sh hs ha _ (show TkAt _ _ _ _ _ _ from OwnC.alloc HT.out _)).mono ?_
        rintro e w5 ⟨a5, sh5, m, rfl, ht5, hg5, ha5, hm, hy5, hn5⟩
        have HT5 := Lib.hid ht5
        have HR5 := Lib.hid (own_grew (OwnC.alloc HR.out (.cells #[] 45)) hg5 (by omega))
        have HO5 := Lib.hid (own_grew (OwnC.alloc HO.out (.cells #[] 45)) hg5 (by omega))
        have HL5 := Lib.hid (LsAt.far (LsAt.far HL.out ((Far.refl w4.heap.size wo.heap.size wo).alloc (.cells #[] 45) (Nat.le_refl _))) (far_grew hg5 (by omega) (by simp)))
        have HB5 := Lib.hid (below_grew (Below.alloc HW.out (by omega) (.cells #[] 45)) hg5 (by omega) (Nat.le_refl _))
        have HQ5 := Lib.hid (show ORow w5 45 1 wo.heap.size 0 0 ([] : List Value) from (ORow.new wo 45 1).grew hg5 (by omega))
        have z5 : wo.heap.size + 1 ≤ w5.heap.size := by have := hg5.size; simpa using this
        have HC5 := Lib.hid (CondI.start HC.out hlt hy5 hn5)
        clear HT HR HO HL HC HW ht5 hg5 hy5 hn5
        have hmm : (m : Int) ≤ 255 := by omega
        go_wp2_with fail
        go_loopw [6, 7, 29] (fun s6 _ i wi => ∃ (q a' bl cp : Nat) (sh' : Bool) (pts : List Cx), q ≤ m ∧ i = .int .i64 q ∧ pts.length = q ∧ s6 = .slice (some ⟨bl, 0, none⟩) q cp ∧ a' ≤ s.size ∧ Hid (TkAt 75 wi (w.heap.size + 1) s a' sh') ∧ Hid (OwnC wi w.heap.size #[.string ⟨#[]⟩, .slice none 0 0] 31) ∧
          Hid (OwnC wi w3.heap.size #[.string nm, .slice ao k cap] 31) ∧ Hid (LsAt wi 44 w4.heap.size wo.heap.size ao cap ls) ∧ Hid (ORow wi 45 1 bl cp q (pts.map cV)) ∧ wo.heap.size ≤ bl ∧ Hid (CondI s sh' a' k c q m nm ls pts) ∧ Hid (Below w.heap.size w wi) ∧ wo.heap.size ≤ wi.heap.size) (fun _ _ i _ => m - (intOf i).toNat)
        case atStart => exact ⟨0, a5, wo.heap.size, 0, sh5, [], by omega, rfl, rfl, rfl, ha5, HT5, HR5, HO5, HL5, HQ5, Nat.le_refl _, HC5, HB5, by omega⟩
        case round =>
          obtain ⟨q, a', bl, cp, sh', pts, hq', rfl, hpl, rfl, ha', HT, HR, HO, HL, HQ, hbl, HC, HW, hzi⟩ := hrel
          by_cases hql : q < m
          · have q0 : (0 : Int) ≤ (q : Int) := by omega
            have q1 : (q : Int) < (m : Int) := by omega
            go_wp2_with fail
            refine (partA (w.heap.size + 1) s a' sh' hs ha' _ HT.out).mono ?_
            rintro e w6 ⟨a6, sh6, x, rfl, ht6, hg6, ha6, hy6, hn6⟩
            have HT6 := Lib.hid ht6
            have HR6 := Lib.hid (own_grew HR.out hg6 (by omega))
            have HO6 := Lib.hid (own_grew HO.out hg6 (by omega))
            have HL6 := Lib.hid (LsAt.far HL.out (far_grew hg6 (by omega) hzi))
            have HQ6 := Lib.hid (HQ.out.grew hg6 (by omega))
            have HB6 := Lib.hid (below_grew HW.out hg6 (by omega) (Nat.le_refl _))
            have z6 : wo.heap.size ≤ w6.heap.size := by have := hg6.size; omega
            have HY6 := Lib.hid hy6
            have HN6 := Lib.hid hn6
            clear HT HR HO HL HQ HW ht6 hg6 hy6 hn6
            go_wp2_with fail
            refine (partA (w.heap.size + 1) s a6 sh6 hs ha6 _ HT6.out).mono ?_
            rintro e w7 ⟨a7, sh7, y, rfl, ht7, hg7, ha7, hy7, hn7⟩
            have HT7 := Lib.hid ht7
            have HR7 := Lib.hid (own_grew HR6.out hg7 (by omega))
            have HO7 := Lib.hid (own_grew HO6.out hg7 (by omega))
            have HL7 := Lib.hid (LsAt.far HL6.out (far_grew hg7 (by omega) z6))
            have HQ7 := Lib.hid (HQ6.out.grew hg7 (by omega))
            have HB7 := Lib.hid (below_grew HB6.out hg7 (by omega) (Nat.le_refl _))
            have z7 : wo.heap.size ≤ w7.heap.size := by have := hg7.size; omega
            have HC7 := Lib.hid (CondI.step HC.out hlt hql HY6.out HN6.out hy7 hn7)
            clear HT6 HR6 HO6 HL6 HQ6 HB6 HC HY6 HN6 ht7 hg7 hy7 hn7
            go_wp2_with (at_builtin; refine wpList_app rfl _ _ _ rfl 45 (.complex .f32 0 0) 1 8 Try.underlying44 infoCx rfl (by decide) w7 #[.complex .f32 x y] 45 rfl (by simp [Value.oneCell']) bl cp q _ rfl rfl HQ7.out (by omega) (by decide) ?_; intro b8 cp8 w8 hr8 hb8 hg8; have HR8 := Lib.hid hr8; have HG8 := Lib.hid hg8; clear hr8 hg8)
            have hbw : wo.heap.size ≤ b8 := by omega
            have z8 := HG8.out.size
            refine ⟨⟨q + 1, a7, b8, cp8, sh7, pts ++ [(x, y)], by omega, by go_num, by simp [hpl], by first | rfl | (congr 1), ha7, ?_, ?_, ?_, ?_, ?_, hbw, HC7, ?_, by omega⟩, by simp [intOf]; omega⟩
            · exact Lib.hid (own_grew HT7.out HG8.out (by omega))
            · exact Lib.hid (own_grew HR7.out HG8.out (by omega))
            · exact Lib.hid (own_grew HO7.out HG8.out (by omega))
            · exact Lib.hid (LsAt.far HL7.out (HG8.out.far z7 (.inl hbl)))
            · rw [List.map_append]; exact HR8
            · exact Lib.hid (HB7.out.trans (HG8.out.below (by omega) (by have := HB7.out.size; omega)))
          · have hqq : q = m := by omega
            subst hqq
            have d1 := HO.out.cell 1
            have f1 := HO.out.free 1
            simp at d1
            have hk1 : ls.length ≤ 1000 := by omega
            have hlw := HQ.out.lt
            go_wp2_with (at_builtin; refine wpList_appL rfl _ _ _ rfl 44 (.slice none 0 0) 24 Try.underlying29 infoSl rfl (by decide) wr w4.heap.size wo.heap.size ao cap k ls bl cp q _ pts rfl hlk.symm rfl rfl HL.out (OwnC1.row HQ.out hpl.symm) hpl.symm hbl hz hlw hzi hk1 ?_; intro ao8 cap8 w8 hl8 hb8 hz8; have HL8 := Lib.hid hl8; have HB8 := Lib.hid hb8; have d8 : w8.cell? ⟨w3.heap.size, 1, none⟩ = some (.slice ao k cap) := (hb8.cell (p := ⟨w3.heap.size, 1, none⟩) (by show w3.heap.size < w4.heap.size; omega)).trans d1; have f8 : w8.frozen? ⟨w3.heap.size, 1, none⟩ = false := OwnC.free (HO.out.below hb8 (by omega)) 1; clear hl8 hb8)
            have HT8 := HT.out.below HB8.out (by omega)
            have HR8 := HR.out.below HB8.out (by omega)
            have HO8 := HO.out.below HB8.out (by omega)
            refine ⟨⟨k + 1, a', cap8, sh', ao8, ls ++ [pts], by omega, by go_num, by simp [hlk], ha', ?_, ?_, ?_, ?_, ?_, ?_, ?_⟩, by simp [intOf]; omega⟩
            · exact Lib.hid (OwnC.other HT8 _ _ (by simp; omega))
            · exact Lib.hid (OwnC.other HR8 _ _ (by simp; omega))
            · exact Lib.hid ((HO8.set 1 _).congr (by simp))
            · have := LsAt.far HL8.out ((Far.refl w4.heap.size w8.heap.size w8).set ⟨w3.heap.size, 1, none⟩ (.slice ao8 (k + 1) cap8) (.inl (by show w3.heap.size < _; omega)))
              simpa using Lib.hid this
            · exact Lib.hid (CondI.done HC.out ha')
            · exact Lib.hid ((HW.out.trans (HB8.out.mono (by omega))).setCell (by show w.heap.size ≤ w3.heap.size; omega) _)
            · simp; omega
      · have hkc : k = c := by omega
        subst hkc
        go_wp2_with fail
        refine (takeA (w.heap.size + 1) s a 2 sh hs ha (by decide) _ HT.out).mono ?_
        rintro e w9 ⟨a9, sh9, x9, rfl, ht9, hg9, ha9, hx9, hy9, hn9⟩
        have c90 := OwnC.cell ht9 0
        have c91 := OwnC.cell ht9 1
        have c92 := OwnC.cell ht9 2
        simp at c90 c91 c92
        have HT9 := Lib.hid ht9
        have HR9 := Lib.hid (own_grew HR.out hg9 (by omega))
        have HO9 := Lib.hid (own_grew HO.out hg9 (by omega))
        have HL9 := Lib.hid (LsAt.far HL.out (far_grew hg9 (by omega) (Nat.le_refl _)))
        have HB9 := Lib.hid (below_grew HW.out hg9 (by omega) (Nat.le_refl _))
        have z9 : wo.heap.size ≤ w9.heap.size := hg9.size
        have HP : Hid ((sh9 = false → 6 + pName s ≤ s.size ∧ nm = pNm s ∧ a9 = qAt s (pLoops s) + 2 ∧ ls = pLps s (pLoops s) ∧ POk s) ∧ (sh9 = true → ¬ POk s)) := by
          refine Lib.hid ⟨fun e => ?_, fun e hp => ?_⟩
          · obtain ⟨e1, e2, _⟩ := hy9 e
            obtain ⟨q1, q2, q3, q4, q5, q6⟩ := HC.out.1 e1
            subst q5
            exact ⟨q1, q2, by rw [e2, q3], q4, q1, q6, by omega⟩
          · rcases hn9 e with h | h
            · exact HC.out.2 h hp
            · cases hsh : sh
              · obtain ⟨q1, q2, q3, q4, q5, q6⟩ := HC.out.1 hsh
                subst q5
                have := hp.2.2
                omega
              · exact HC.out.2 hsh hp
        clear HT HR HO HL HC HW ht9 hg9 hy9 hn9 HC4 HB4 HO4 HR4 HT4
        subst hlk
        cases sh9
        · obtain ⟨p1, rfl, p3, rfl, p5⟩ := HP.out.1 rfl
          have HP5 := Lib.hid p5
          have HNM := Lib.hid (rfl : pNm s = pNm s)
          have o0 := HO9.out.cell 0
          have o1 := HO9.out.cell 1
          simp at o0 o1
          have r0 := HR9.out.cell 0
          have r1 := HR9.out.cell 1
          have f0 := HR9.out.free 0
          have f1 := HR9.out.free 1
          simp at r0 r1
          have hlen : (pLps s (pLoops s)).length ≤ 1048576 := by omega
          have hnm9 : (pNm s).size ≤ 1048576 := by rw [pNm, ByteArray.size_extract]; omega
          clear HP p5
          by_cases hok : okOut (pNm s) (pLps s (pLoops s))
          · have HOK := Lib.hid hok
            have HRD := Lib.hid (show Rd s ↔ _ from ⟨fun h => h.2.2, fun h => ⟨HP5.out, hok, h⟩⟩)
            generalize hS : (⟨(stoB (pNm s) (pLps s (pLoops s))).toArray⟩ : ByteArray) = S at *
            have HSS := Lib.hid hS
            have HSL := Lib.hid HL9.out.slL
            have HSM := Lib.hid (pLps_sm s (pLoops s))
            clear hok hS
            have y0 : (0 : Int) ≤ (a9 : Int) := by omega
            have y1 : (a9 : Int) ≤ (s.size : Int) := by omega
            have HA9 := Lib.hid p3
            have p3' : a9 ≤ s.size := ha9
            clear p3
            cases hcm : (S.toList == (s.extract 0 a9).toList)
            · have hno : ¬ Rd s := fun h => by
                have := HRD.out.1 h
                rw [← HA9.out] at this
                rw [← this] at hcm
                simp at hcm
              have HNO := Lib.hid hno
              clear hno
              go_wp2_with (go_at_call 6; refine (storeYes w4.heap.size wo.heap.size ao cap _ _ HOK.out HSM.out w9 HSL.out z9).mono ?_; rintro e wA ⟨rfl, hbA⟩; rw [HSS.out]; have HBA := Lib.hid hbA; have g1 := keep_cell hbA c91; have u0 := keep_cell hbA r0; have u1 := keep_cell hbA r1; have v0 := keep_cell hbA o0; have v1 := keep_cell hbA o1; have k0 := OwnC.free (HR9.out.below hbA HR9.out.lt) 0; have k1 := OwnC.free (HR9.out.below hbA HR9.out.lt) 1; clear hbA c90 c91 c92 r0 r1 o0 o1 f0 f1)
              have hob := (HR9.out.below HBA.out HR9.out.lt)
              have v2 := res_two hob (.string ⟨#[]⟩) (.slice none 0 0)
              have q0 := v2.1
              have q1 := v2.2
              clear v2
              refine bodyPost_ret (v := .tuple #[.agg #[.string ⟨#[]⟩, .slice none 0 0], .int .i64 0]) (by simp [results, Try.results19, go_sem, q0, q1]) rfl (RetO.none HNO.out ?_)
              exact ((HB9.out.trans (HBA.out.mono (by omega))).setCell (Nat.le_refl _) _).setCell (Nat.le_refl _) _
            · have hst : S.toList = (s.extract 0 a9).toList := eq_of_beq hcm
              have hyes : Rd s := HRD.out.2 (by
                rw [← HA9.out]
                rw [ByteArray.toList_eq, ByteArray.toList_eq] at hst
                exact ByteArray.ext (Array.toList_inj.1 hst))
              have HYES := Lib.hid hyes
              clear hst hyes
              go_wp2_with (go_at_call 6; refine (storeYes w4.heap.size wo.heap.size ao cap _ _ HOK.out HSM.out w9 HSL.out z9).mono ?_; rintro e wA ⟨rfl, hbA⟩; rw [HSS.out]; have HBA := Lib.hid hbA; have g1 := keep_cell hbA c91; have u0 := keep_cell hbA r0; have u1 := keep_cell hbA r1; have v0 := keep_cell hbA o0; have v1 := keep_cell hbA o1; have k0 := OwnC.free (HR9.out.below hbA HR9.out.lt) 0; have k1 := OwnC.free (HR9.out.below hbA HR9.out.lt) 1; clear hbA c90 c91 c92 r0 r1 o0 o1 f0 f1)
              go_region
              go_wp2_with fail
              have hob := (HR9.out.below HBA.out HR9.out.lt)
              have v2 := res_two hob (.string (pNm s)) (.slice ao (pLps s (pLoops s)).length cap)
              have q0 := v2.1
              have q1 := v2.2
              clear v2
              refine bodyPost_ret (v := .tuple #[.agg #[.string (pNm s), .slice ao (pLps s (pLoops s)).length cap], .int .i64 (a9 : Nat)]) (by simp [results, Try.results19, go_sem, q0, q1]) rfl ⟨⟨ao, cap, _, _, a9, .inl ⟨HYES.out, rfl, rfl, HA9.out⟩, rfl, ?_⟩, ?_⟩
              · have f1 := LsAt.far HL9.out (Far.below HBA.out z9)
                have f2 := LsAt.far f1 (((Far.refl w4.heap.size wo.heap.size wA).set ⟨w.heap.size, 0, none⟩ (.string (pNm s)) (.inl (by show w.heap.size < _; omega))).set ⟨w.heap.size, 1, none⟩ (.slice ao (pLps s (pLoops s)).length cap) (.inl (by show w.heap.size < _; omega)))
                have zA := HBA.out.size
                refine LsAt.mono (LsAt.low ?_ (show w.heap.size ≤ w4.heap.size by omega)) (show wo.heap.size ≤ _ by simp; omega)
                exact f2
              · have hfin := ((HB9.out.trans (HBA.out.mono (by omega))).setCell (p := ⟨w.heap.size, 0, none⟩) (Nat.le_refl _) (.string (pNm s))).setCell (p := ⟨w.heap.size, 1, none⟩) (Nat.le_refl _) (.slice ao (pLps s (pLoops s)).length cap)
                exact hfin.drew
          · have HNO := Lib.hid (fun h => hok (Rd.ok h) : ¬ Rd s)
            have HOK := Lib.hid hok
            clear hok
            go_wp2_with (go_at_call 6; refine (storeNo w4.heap.size wo.heap.size ao cap _ _ hnm9 hlen (pLps_short s (pLoops s)) HOK.out w9 HL9.out.slL z9).mono ?_; rintro e wA ⟨rfl, hbA⟩; have HBA := Lib.hid hbA; have u0 := keep_cell hbA r0; have u1 := keep_cell hbA r1; have k0 := OwnC.free (HR9.out.below hbA HR9.out.lt) 0; have k1 := OwnC.free (HR9.out.below hbA HR9.out.lt) 1; clear hbA c90 c91 c92 r0 r1 o0 o1 f0 f1)
            have hob := (HR9.out.below HBA.out HR9.out.lt)
            have v2 := res_two hob (.string ⟨#[]⟩) (.slice none 0 0)
            have q0 := v2.1
            have q1 := v2.2
            clear v2
            refine bodyPost_ret (v := .tuple #[.agg #[.string ⟨#[]⟩, .slice none 0 0], .int .i64 0]) (by simp [results, Try.results19, go_sem, q0, q1]) rfl (RetO.none HNO.out ?_)
            exact ((HB9.out.trans (HBA.out.mono (by omega))).setCell (Nat.le_refl _) _).setCell (Nat.le_refl _) _
        · have hno : ¬ Rd s := fun h => HP.out.2 rfl h.1
          have HNO := Lib.hid hno
          have r0 := HR9.out.cell 0
          have r1 := HR9.out.cell 1
          have f0 := HR9.out.free 0
          have f1 := HR9.out.free 1
          simp at r0 r1
          clear hno
          go_wp2_with fail
          have v2 := res_two HR9.out (.string ⟨#[]⟩) (.slice none 0 0)
          have v0 := v2.1
          have v1 := v2.2
          clear v2
          refine bodyPost_ret (v := .tuple #[.agg #[.string ⟨#[]⟩, .slice none 0 0], .int .i64 0]) (by simp [results, Try.results19, go_sem, v0, v1]) rfl (RetO.none HNO.out ?_)
          exact (HB9.out.setCell (Nat.le_refl _) _).setCell (Nat.le_refl _) _
end Go.Proofs.Ytjapidajammkbaa

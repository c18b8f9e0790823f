/- The plain law: an outline that is stored is read again; of a cut text, or one with another byte, a beginning is found. -/
import Derived.Test.YtjapidajammkbaaORecD
import Derived.Test.YtjapidajammkbaaOLoad
namespace Go.Fl
open Go.RowKit
theorem bN_ex (s : ByteArray) (a b i : Nat) (hb : b ≤ s.size) (hi : a + i < b) : bN (s.extract a b) i = bN s (a + i) := by
  have h1 : i < (s.extract a b).size := by rw [ByteArray.size_extract]; omega
  rw [bN_lt h1, bN_lt (show a + i < s.size by omega)]
  congr 1
  rw [ByteArray.getElem_extract]
theorem eq_of_bN {s u : ByteArray} (h : s.size = u.size) (hb : ∀ i, i < s.size → bN s i = bN u i) : s = u := by
  refine ByteArray.ext (Array.ext h fun i h1 h2 => ?_)
  have e := hb i h1
  rw [bN_lt (show i < s.size from h1), bN_lt (show i < u.size from h2)] at e
  exact UInt8.toNat_inj.1 e
/-- the bytes L lie at p in t -/
def LieAt (t : ByteArray) (p : Nat) (L : List UInt8) : Prop := p + L.length ≤ t.size ∧ ∀ i (h : i < L.length), bN t (p + i) = (L[i]).toNat
theorem LieAt.left {t : ByteArray} {p : Nat} {A B : List UInt8} (h : LieAt t p (A ++ B)) : LieAt t p A := by
  have hl := h.1
  rw [List.length_append] at hl
  refine ⟨by omega, fun i hi => ?_⟩
  have := h.2 i (by rw [List.length_append]; omega)
  rw [List.getElem_append_left hi] at this
  exact this
theorem LieAt.right {t : ByteArray} {p : Nat} {A B : List UInt8} (h : LieAt t p (A ++ B)) : LieAt t (p + A.length) B := by
  have hl := h.1
  rw [List.length_append] at hl
  refine ⟨by omega, fun i hi => ?_⟩
  have := h.2 (A.length + i) (by rw [List.length_append]; omega)
  rw [List.getElem_append_right (by omega)] at this
  simpa [Nat.add_assoc] using this
theorem LieAt.app {t : ByteArray} {p : Nat} {A B : List UInt8} (h1 : LieAt t p A) (h2 : LieAt t (p + A.length) B) : LieAt t p (A ++ B) := by
  refine ⟨by have := h2.1; rw [List.length_append]; omega, fun i hi => ?_⟩
  rw [List.length_append] at hi
  by_cases hA : i < A.length
  · rw [List.getElem_append_left hA]; exact h1.2 i hA
  · rw [List.getElem_append_right (by omega)]
    have := h2.2 (i - A.length) (by omega)
    rw [← this]
    congr 1; omega
theorem LieAt.nil (t : ByteArray) (p : Nat) (h : p ≤ t.size) : LieAt t p [] := ⟨h, fun i hi => absurd hi (Nat.not_lt_zero _)⟩
theorem bN_mk (L : List UInt8) (i : Nat) (h : i < L.length) : bN ⟨L.toArray⟩ i = (L[i]).toNat := by
  rw [bN_lt (show i < (⟨L.toArray⟩ : ByteArray).size by show i < L.toArray.size; simpa using h)]
  rfl
theorem LieAt.self (L : List UInt8) : LieAt ⟨L.toArray⟩ 0 L :=
  ⟨by show 0 + L.length ≤ L.toArray.size; simp, fun i hi => by rw [Nat.zero_add]; exact bN_mk L i hi⟩
theorem LieAt.extract {t : ByteArray} {p : Nat} {L : List UInt8} (h : LieAt t p L) : t.extract p (p + L.length) = ⟨L.toArray⟩ := by
  have h1 := h.1
  refine eq_of_bN (by rw [ByteArray.size_extract]; show _ = L.toArray.size; simp; omega) fun i hi => ?_
  rw [ByteArray.size_extract] at hi
  rw [bN_ex _ _ _ _ h1 (by omega), h.2 i (by omega), bN_mk L i (by omega)]
theorem LieAt.drop {t : ByteArray} {p : Nat} {L : List UInt8} (h : LieAt t p L) : LieAt (t.extract p t.size) 0 L := by
  have h1 := h.1
  refine ⟨by rw [ByteArray.size_extract]; omega, fun i hi => ?_⟩
  rw [Nat.zero_add, bN_ex _ _ _ _ (Nat.le_refl _) (by omega)]
  exact h.2 i hi
theorem LieAt.undrop {t : ByteArray} {p : Nat} {L : List UInt8} (hp : p ≤ t.size) (h : LieAt (t.extract p t.size) 0 L) : LieAt t p L := by
  have h1 := h.1
  rw [ByteArray.size_extract] at h1
  refine ⟨by omega, fun i hi => ?_⟩
  have := h.2 i hi
  rw [Nat.zero_add, bN_ex _ _ _ _ (Nat.le_refl _) (by omega)] at this
  exact this
theorem LieAt.of_extract {t : ByteArray} {n : Nat} {L : List UInt8} (hn : n ≤ t.size) (h : (⟨L.toArray⟩ : ByteArray) = t.extract 0 n) : LieAt t 0 L ∧ L.length = n := by
  have hs : (⟨L.toArray⟩ : ByteArray).size = L.length := by show L.toArray.size = _; simp
  have hl : L.length = n := by rw [← hs, h, ByteArray.size_extract]; omega
  refine ⟨⟨by omega, fun i hi => ?_⟩, hl⟩
  rw [← bN_mk L i hi, h, bN_ex _ _ _ _ hn (by omega)]
theorem LieAt.same {t u : ByteArray} {p : Nat} {L : List UInt8} (h : LieAt t p L) (hu : p + L.length ≤ u.size) (hb : ∀ i, i < p + L.length → bN u i = bN t i) : LieAt u p L :=
  ⟨hu, fun i hi => by rw [hb _ (by omega)]; exact h.2 i hi⟩
theorem toNat_ofNat {n : Nat} (h : n < 256) : (UInt8.ofNat n).toNat = n := by rw [UInt8.toNat_ofNat']; omega
theorem LieAt.one {t : ByteArray} {p n : Nat} {L : List UInt8} (h : LieAt t p (UInt8.ofNat n :: L)) (hn : n < 256) : bN t p = n := by
  have := h.2 0 (by simp)
  rw [Nat.add_zero] at this
  rw [this]
  exact toNat_ofNat hn
theorem word_read {t : ByteArray} {p x : Nat} (hx : x < 4294967296) (hf : fin (can .f32 x) = true) (h : LieAt t p (word x)) : w32 t p = x := by
  have hc : can .f32 x = x := by
    cases hn : nanB .f32 x
    · exact can_of_not hn
    · rw [can_of_nan hn] at hf
      exact absurd hf (by decide +kernel)
  unfold word at h
  rw [hc] at h
  have h0 := h.2 0 (by simp [le4])
  have h1 := h.2 1 (by simp [le4])
  have h2 := h.2 2 (by simp [le4])
  have h3 := h.2 3 (by simp [le4])
  simp only [le4, List.getElem_cons_zero, List.getElem_cons_succ, UInt8.toNat_ofNat', Nat.add_zero] at h0 h1 h2 h3
  unfold w32
  rw [h0, h1, h2, h3]
  omega
theorem word_len (x : Nat) : (word x).length = 4 := rfl
theorem ptB_split {t : ByteArray} {p : Nat} {l : List Cx} : ∀ {n : Nat}, LieAt t p (ptB l n) → ∀ j, j < n → LieAt t (p + 8 * j) (word (cAt l j).1 ++ word (cAt l j).2)
  | 0, _, j, hj => absurd hj (Nat.not_lt_zero _)
  | n + 1, h, j, hj => by
    rw [ptB] at h
    by_cases e : j = n
    · subst e
      have := h.right
      rw [ptB_len] at this
      exact this
    · exact ptB_split h.left j (by omega)
theorem lpB_split {t : ByteArray} {p : Nat} {ls : List (List Cx)} : ∀ {n : Nat}, LieAt t p (lpB ls n) → ∀ k, k < n → LieAt t (p + (lpB ls k).length) (UInt8.ofNat (lpAt ls k).length :: ptB (lpAt ls k) (lpAt ls k).length)
  | 0, _, k, hk => absurd hk (Nat.not_lt_zero _)
  | n + 1, h, k, hk => by
    rw [lpB] at h
    by_cases e : k = n
    · subst e; exact h.right
    · exact lpB_split h.left k (by omega)
theorem map_at {α : Type} (l : List α) (d : α) : (List.range l.length).map (fun i => l.getD i d) = l := by
  refine List.ext_getElem (by simp) fun i h1 h2 => ?_
  simp [h2]
/-- an outline that stands at the beginning of t is read -/
theorem read_sto {t nm : ByteArray} {ls : List (List Cx)} (hok : okOut nm ls) (hsm : Sm ls) (h : LieAt t 0 (stoB nm ls)) : Rd t ∧ pNm t = nm ∧ pLps t (pLoops t) = ls ∧ qAt t (pLoops t) + 2 = (stoB nm ls).length := by
  have hfull := h
  obtain ⟨hnm, hl1, hl4, hall⟩ := hok
  have hshort := okOut_short ⟨hnm, hl1, hl4, hall⟩
  have hn8 := hnm.2.2
  unfold stoB preB at h
  have hF := h.right
  have hE := h.left.right
  have hD := h.left.left.right
  have hC := h.left.left.left.right
  have hB := h.left.left.left.left.right
  have hns : nm.data.toList.length = nm.size := rfl
  simp only [List.length_append, List.length_cons, List.length_nil, hns, Nat.zero_add] at hF hE hD hC hB
  have e1 : pName t = nm.size := hB.one (by omega)
  have e2 : pLoops t = ls.length := by
    unfold pLoops
    rw [e1]
    exact hD.one (by omega)
  have e3 : pNm t = nm := by
    unfold pNm
    rw [e1]
    have := hC.extract
    rw [hns] at this
    rw [this]
  have hE' : LieAt t (6 + nm.size) (lpB ls ls.length) := by
    have e : 4 + 1 + nm.size + 1 = 6 + nm.size := by omega
    rw [← e]; exact hE
  have hlp := lpB_split hE'
  have hq : ∀ k, k ≤ ls.length → qAt t k = 6 + nm.size + (lpB ls k).length := by
    intro k
    induction k with
    | zero => intro _; rw [qAt, e1]; rfl
    | succ k ih =>
      intro hk
      have hk' := ih (by omega)
      have hb := (hlp k (by omega)).one (by have := (hshort k (by omega)).2; omega)
      rw [qAt, hk', hb, lpB, List.length_append, List.length_cons, ptB_len]
      omega
  have hlen : ∀ k, k < ls.length → bN t (qAt t k) = (lpAt ls k).length := fun k hk => by
    rw [hq k (by omega)]
    exact (hlp k hk).one (by have := (hshort k hk).2; omega)
  have e4 : pLps t ls.length = ls := by
    have hm := map_at ls []
    conv => rhs; rw [← hm]
    unfold pLps
    refine List.map_congr_left fun i hi => ?_
    have hi : i < ls.length := List.mem_range.1 hi
    rw [hlen i hi]
    unfold pPts
    have hc := map_at (lpAt ls i) (0, 0)
    have e : ls.getD i [] = lpAt ls i := rfl
    rw [e]
    conv => rhs; rw [← hc]
    refine List.map_congr_left fun j hj => ?_
    have hj : j < (lpAt ls i).length := List.mem_range.1 hj
    have hp : LieAt t (6 + nm.size + (lpB ls i).length + 1) (ptB (lpAt ls i) (lpAt ls i).length) := LieAt.right (A := [UInt8.ofNat (lpAt ls i).length]) (hlp i hi)
    have hw := ptB_split hp j hj
    have hs := hsm i hi j hj
    have hok := List.all_eq_true.1 hall _ (List.getElem_mem hi)
    have hel : lpAt ls i = ls[i] := by simp [lpAt, hi]
    have hpt : okPt (cAt (lpAt ls i) j) = true := by
      rw [okLoop, Bool.and_eq_true] at hok
      have h2 := List.all_eq_true.1 hok.2
      rw [hel] at hj ⊢
      have : cAt ls[i] j = ls[i][j] := by simp [cAt, hj]
      rw [this]
      exact h2 _ (List.getElem_mem hj)
    rw [okPt, Bool.and_eq_true] at hpt
    have w1 := word_read hs.1 hpt.1 hw.left
    have w2 := word_read hs.2 hpt.2 hw.right
    rw [word_len] at w2
    rw [hq i (by omega), w1, w2]
    rfl
  have e5 : qAt t ls.length + 2 = (stoB nm ls).length := by
    rw [hq _ (Nat.le_refl _)]
    unfold stoB preB
    simp only [List.length_append, List.length_cons, List.length_nil, hns]
    omega
  have hsz := hfull.1
  rw [← e5, Nat.zero_add] at hsz
  refine ⟨⟨⟨?_, fun i hi => ?_, ?_⟩, ?_, ?_⟩, e3, by rw [e2, e4], by rw [e2, e5]⟩
  · have := hq 0 (Nat.zero_le _)
    have hm := qAt_mono t (Nat.zero_le ls.length)
    rw [e1]
    rw [qAt, e1] at hm
    omega
  · rw [e2] at hi
    have hm := qAt_mono t (show i + 1 ≤ ls.length from hi)
    rw [qAt] at hm
    unfold pFits
    omega
  · rw [e2]; exact hsz
  · rw [e3, e2, e4]
    exact ⟨hnm, hl1, hl4, hall⟩
  · rw [e3, e2, e4, e5]
    have := hfull.extract
    rw [Nat.zero_add] at this
    exact this.symm
/-- outlines' bytes, one behind another -/
def catB : List Ol → List UInt8
  | [] => []
  | o :: os => stoB o.1 o.2 ++ catB os
theorem catB_app : ∀ a b : List Ol, catB (a ++ b) = catB a ++ catB b
  | [], _ => rfl
  | o :: a, b => by rw [List.cons_append, catB, catB, catB_app a b, List.append_assoc]
def GoodO (o : Ol) : Prop := okOut o.1 o.2 ∧ Sm o.2
theorem Rd.good {t : ByteArray} (h : Rd t) : GoodO (pNm t, pLps t (pLoops t)) := ⟨h.2.1, pLps_sm _ _⟩
theorem stoB_pos (o : Ol) : 6 < (stoB o.1 o.2).length := by
  unfold stoB preB
  simp only [List.length_append, List.length_cons, List.length_nil]
  omega
/-- outlines that stand one behind another are found -/
theorem recF_cat {t : ByteArray} : ∀ (os : List Ol) (f p : Nat), (∀ o, o ∈ os → GoodO o) → LieAt t p (catB os) →
    recF t (os.length + f) p = (os ++ (recF t f (p + (catB os).length)).1, (recF t f (p + (catB os).length)).2)
  | [], f, p, _, _ => by simp [catB]
  | o :: os, f, p, hg, h => by
    have hl := h.left
    obtain ⟨g1, g2⟩ := hg o (List.mem_cons_self ..)
    obtain ⟨r1, r2, r3, r4⟩ := read_sto g1 g2 hl.drop
    have ih := recF_cat os f (p + (stoB o.1 o.2).length) (fun x hx => hg x (List.mem_cons_of_mem _ hx)) h.right
    rw [show (o :: os).length + f = (os.length + f) + 1 by simp; omega, recF, if_pos r1, r2, r3, r4, ih]
    rw [catB, List.length_append, Nat.add_assoc]
    rfl
theorem recF_nord {t : ByteArray} {p : Nat} (h : ¬ Rd (t.extract p t.size)) : ∀ f, recF t f p = ([], p)
  | 0 => rfl
  | f + 1 => by rw [recF, if_neg h]
theorem nord_end (t : ByteArray) : ¬ Rd (t.extract t.size t.size) := fun h => by
  have := h.1.1
  rw [ByteArray.size_extract] at this
  omega
/-- what is found stands there -/
theorem recF_bytes {t : ByteArray} : ∀ (f p : Nat), p ≤ t.size → LieAt t p (catB (recF t f p).1) ∧ (recF t f p).2 = p + (catB (recF t f p).1).length ∧ ∀ o, o ∈ (recF t f p).1 → GoodO o
  | 0, p, hp => ⟨LieAt.nil t p hp, by simp [recF, catB], fun o ho => by simp [recF] at ho⟩
  | f + 1, p, hp => by
    rw [recF]
    split
    · rename_i h
      have h3 := h.2.2
      have hn := h.1.2.2
      obtain ⟨l1, l2⟩ := LieAt.of_extract hn h3
      have l3 := l1.undrop hp
      have hsz := l3.1
      obtain ⟨i1, i2, i3⟩ := recF_bytes f (p + (qAt (t.extract p t.size) (pLoops (t.extract p t.size)) + 2)) (by rw [← l2]; exact hsz)
      refine ⟨?_, ?_, fun o ho => ?_⟩
      · show LieAt t p (stoB _ _ ++ catB _)
        refine l3.app ?_
        rw [l2]; exact i1
      · show (recF t f _).2 = p + (stoB _ _ ++ catB _).length
        rw [List.length_append, l2, i2, Nat.add_assoc]
      · rcases List.mem_cons.1 ho with rfl | ho
        · exact h.good
        · exact i3 o ho
    · exact ⟨LieAt.nil t p hp, by simp [catB], fun o ho => by simp at ho⟩
/-- a true beginning of an outline's bytes is none -/
theorem nord_cut {u : ByteArray} {o : Ol} (hg : GoodO o) (hl : u.size < (stoB o.1 o.2).length) (hb : ∀ i (h : i < u.size), bN u i = ((stoB o.1 o.2)[i]'(by omega)).toNat) : ¬ Rd u := fun h => by
  obtain ⟨hv, _, _, hq⟩ := read_sto hg.1 hg.2 (LieAt.self (stoB o.1 o.2))
  obtain ⟨v, hvd⟩ : ∃ v : ByteArray, v = ⟨(stoB o.1 o.2).toArray⟩ := ⟨_, rfl⟩
  rw [← hvd] at hv hq
  have hbv : ∀ i, i < u.size → bN u i = bN v i := fun i hi => by rw [hb i hi, hvd, bN_mk _ _ (by omega)]
  obtain ⟨p1, p2, p3⟩ := h.1
  have e1 : pName u = pName v := hbv 4 (by omega)
  have e2 : pLoops u = pLoops v := by
    unfold pLoops
    rw [e1]
    exact hbv _ (by rw [← e1]; omega)
  have e3 : ∀ k, k ≤ pLoops u → qAt u k = qAt v k := by
    intro k
    induction k with
    | zero => intro _; rw [qAt, qAt, e1]
    | succ k ih =>
      intro hk
      have e := ih (by omega)
      have hf := p2 k (by omega)
      unfold pFits at hf
      rw [qAt, qAt, ← e, hbv (qAt u k) (by omega)]
  have := e3 _ (Nat.le_refl _)
  rw [e2] at this p3
  omega
/-- where outline k ends -/
def endAt (os : List Ol) (k : Nat) : Nat := (catB (os.take k)).length
theorem endAt_succ {os : List Ol} {k : Nat} (h : k < os.length) : endAt os (k + 1) = endAt os k + (stoB (olAt os k).1 (olAt os k).2).length := by
  have e : olAt os k = os[k] := by simp [olAt, h]
  unfold endAt
  rw [List.take_succ_eq_append_getElem h, catB_app, List.length_append, e]
  simp [catB]
theorem split_at {os : List Ol} {k : Nat} (h : k < os.length) : catB os = catB (os.take k) ++ (stoB (olAt os k).1 (olAt os k).2 ++ catB (os.drop (k + 1))) := by
  have e : olAt os k = os[k] := by simp [olAt, h]
  conv => lhs; rw [← List.take_append_drop k os, List.drop_eq_getElem_cons h]
  rw [catB_app, catB, e]
/-- all outlines -/
theorem rec_whole {os : List Ol} (h8 : os.length ≤ 8) (hg : ∀ o, o ∈ os → GoodO o) : recF ⟨(catB os).toArray⟩ 8 0 = (os, (catB os).length) := by
  have h := recF_cat (t := ⟨(catB os).toArray⟩) os (8 - os.length) 0 hg (LieAt.self _)
  have hs : (⟨(catB os).toArray⟩ : ByteArray).size = (catB os).length := by show (catB os).toArray.size = _; simp
  rw [show os.length + (8 - os.length) = 8 by omega] at h
  have hn := nord_end (⟨(catB os).toArray⟩ : ByteArray)
  rw [hs] at hn
  have hn' := recF_nord (t := ⟨(catB os).toArray⟩) (p := (catB os).length) (by rw [hs]; exact hn) (8 - os.length)
  rw [h, Nat.zero_add, hn']
  simp
/-- of a cut text those that are whole -/
theorem rec_cut {os : List Ol} (h8 : os.length ≤ 8) (hg : ∀ o, o ∈ os → GoodO o) {k cut : Nat} (hk : k < os.length) (h1 : endAt os k ≤ cut) (h2 : cut < endAt os (k + 1)) {c : ByteArray} (hc : c = (⟨(catB os).toArray⟩ : ByteArray).extract 0 cut) :
    recF c 8 0 = (os.take k, endAt os k) := by
  have hs : (⟨(catB os).toArray⟩ : ByteArray).size = (catB os).length := by show (catB os).toArray.size = _; simp
  have hsp := split_at hk
  have hlen : (catB os).length = endAt os k + ((stoB (olAt os k).1 (olAt os k).2).length + (catB (os.drop (k + 1))).length) := by
    rw [hsp, List.length_append, List.length_append]; rfl
  have he := endAt_succ hk
  have hcs : c.size = cut := by rw [hc, ByteArray.size_extract]; omega
  have hself := LieAt.self (catB os)
  have hbc : ∀ i, i < cut → bN c i = bN ⟨(catB os).toArray⟩ i := fun i hi => by rw [hc, bN_ex _ _ _ _ (by omega) (by omega), Nat.zero_add]
  have hA : LieAt c 0 (catB (os.take k)) := by
    have h := hself
    rw [hsp] at h
    have hl := h.left
    rw [← hsp] at hl
    have e0 : (catB (os.take k)).length = endAt os k := rfl
    exact hl.same (by omega) (fun i hi => hbc i (by omega))
  have hkl : (os.take k).length = k := by simp; omega
  have hr := recF_cat (os.take k) (8 - k) 0 (fun o ho => hg o (List.mem_of_mem_take ho)) hA
  rw [hkl, show k + (8 - k) = 8 by omega, Nat.zero_add] at hr
  have hno : ¬ Rd (c.extract (endAt os k) c.size) := by
    refine nord_cut (hg _ (olAt_mem hk)) (by rw [ByteArray.size_extract]; omega) fun i hi => ?_
    have hi' := hi
    rw [ByteArray.size_extract] at hi'
    rw [bN_ex _ _ _ _ (Nat.le_refl _) (by omega), hbc _ (by omega)]
    have h := hself
    rw [hsp] at h
    have hl := h.right.left
    rw [← hsp, Nat.zero_add] at hl
    exact hl.2 i (by omega)
  rw [hr, show (catB (os.take k)).length = endAt os k from rfl, recF_nord hno]
  simp
/-- of a text that is the same up to a place: no fewer -/
theorem rec_bent {os : List Ol} (h8 : os.length ≤ 8) (hg : ∀ o, o ∈ os → GoodO o) {k cut : Nat} (hk : k ≤ os.length) (h1 : endAt os k ≤ cut) {c : ByteArray} (hcs : c.size = (catB os).length) (hb : ∀ i, i < cut → bN c i = bN ⟨(catB os).toArray⟩ i) :
    k ≤ (recF c 8 0).1.length := by
  have hself := LieAt.self (catB os)
  have e0 : (catB (os.take k)).length = endAt os k := rfl
  have hsp : catB os = catB (os.take k) ++ catB (os.drop k) := by rw [← catB_app, List.take_append_drop]
  have hA : LieAt c 0 (catB (os.take k)) := by
    have h := hself
    rw [hsp] at h
    have hl := h.left
    rw [← hsp] at hl
    have hll : (catB os).length = (catB (os.take k)).length + (catB (os.drop k)).length := by rw [hsp, List.length_append]
    exact hl.same (by omega) (fun i hi => hb i (by omega))
  have hkl : (os.take k).length = k := by simp; omega
  have hr := recF_cat (os.take k) (8 - k) 0 (fun o ho => hg o (List.mem_of_mem_take ho)) hA
  rw [hkl, show k + (8 - k) = 8 by omega] at hr
  rw [hr]
  simp; omega
/-- a stored outline is loaded -/
theorem load_sto {o : Ol} (hg : GoodO o) {nm : ByteArray} {ls : List (List Cx)} {ok : Bool} (h : LoJ ⟨(stoB o.1 o.2).toArray⟩ nm ls ok) : nm = o.1 ∧ ls = o.2 ∧ ok = true := by
  obtain ⟨r1, r2, r3, r4⟩ := read_sto hg.1 hg.2 (LieAt.self (stoB o.1 o.2))
  have hs : (⟨(stoB o.1 o.2).toArray⟩ : ByteArray).size = (stoB o.1 o.2).length := by show (stoB o.1 o.2).toArray.size = _; simp
  have hj := r1.rdj
  rw [r2, r3, r4] at hj
  have hy : LoJ ⟨(stoB o.1 o.2).toArray⟩ o.1 o.2 true := ⟨_, _, _, hj, .inl ⟨by have := stoB_pos o; omega, hs.symm, rfl, rfl, rfl⟩⟩
  exact hy.unique h
end Go.Fl

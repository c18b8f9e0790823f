/- impl.SameOutlines, impl.StoreOutlines: lists of outlines. -/
import Derived.Test.YtjapidajammkbaaQSame
import Derived.Test.YtjapidajammkbaaOPlw
import Derived.Test.YtjapidajammkbaaOStB
import Derived.Test.YtjapidajammkbaaOVo
namespace Go.Fl
open Go.RowKit
/-- the outlines lie in block b from off on -/
def SlOo (w : World) (lo hi b off : Nat) (os : List Ol) : Prop := lo ≤ b ∧ b < hi ∧ ∀ i, i < os.length → ∃ ai ci, w.cell? ⟨b, off + i * 2, none⟩ = some (.string (olAt os i).1) ∧ w.cell? ⟨b, off + i * 2 + 1, none⟩ = some (.slice ai (olAt os i).2.length ci) ∧ SlL w lo hi ai (olAt os i).2
theorem SlO.oo {w : World} {lo hi b : Nat} {os : List Ol} (h : SlO w lo hi b os) : SlOo w lo hi b 0 os := by
  obtain ⟨h1, h2, h3⟩ := h
  exact ⟨h1, h2, fun i hi => by simpa using h3 i hi⟩
theorem SlOo.far {w w' : World} {lo hi b off : Nat} {os : List Ol} (h : SlOo w lo hi b off os) (hf : Far lo hi w w') : SlOo w' lo hi b off os := by
  obtain ⟨h1, h2, h3⟩ := h
  refine ⟨h1, h2, fun i hi' => ?_⟩
  obtain ⟨ai, ci, c1, c2, c3⟩ := h3 i hi'
  exact ⟨ai, ci, (hf.cell h1 h2).trans c1, (hf.cell h1 h2).trans c2, c3.far hf⟩
theorem SlO.one {w : World} {lo hi b : Nat} {os : List Ol} (h : SlO w lo hi b os) {i : Nat} (hi' : i < os.length) : SlOo w lo hi b (i * 2) [olAt os i] := by
  obtain ⟨h1, h2, h3⟩ := h
  obtain ⟨ai, ci, c1, c2, c3⟩ := h3 i hi'
  refine ⟨h1, h2, fun j hj => ?_⟩
  have hj0 : j = 0 := by simpa using hj
  subst hj0
  exact ⟨ai, ci, c1, c2, c3⟩
theorem GoodO.fits {o : Ol} (h : GoodO o) : Fits o.2 := by
  obtain ⟨r1, r2, r3, _⟩ := read_sto h.1 h.2 (LieAt.self (stoB o.1 o.2))
  have := r1.rdj.fits
  rwa [r3] at this
theorem stoB_le {o : Ol} (h : GoodO o) : (stoB o.1 o.2).length ≤ 2100 := by
  have h1 := lpB_le o.2 (fun i hi => (okOut_short h.1 i hi).2) o.2.length (Nat.le_refl _)
  have h2 := h.1.1.2.2
  have h3 := h.1.2.2.1
  have hns : o.1.data.toList.length = o.1.size := rfl
  unfold stoB preB
  simp only [List.length_append, List.length_cons, List.length_nil, hns]
  omega
theorem catB_le : ∀ {os : List Ol}, (∀ o, o ∈ os → GoodO o) → (catB os).length ≤ 2100 * os.length
  | [], _ => Nat.le_refl _
  | o :: os, h => by
    have h1 := stoB_le (h o (List.mem_cons_self ..))
    have h2 := catB_le (os := os) fun x hx => h x (List.mem_cons_of_mem _ hx)
    rw [catB, List.length_append, List.length_cons]
    omega
theorem catB_take {os : List Ol} {k : Nat} (h : k < os.length) : catB (os.take (k + 1)) = catB (os.take k) ++ stoB (olAt os k).1 (olAt os k).2 := by
  have e : olAt os k = os[k] := by simp [olAt, h]
  rw [List.take_succ_eq_append_getElem h, catB_app, e]
  simp [catB]
end Go.Fl
namespace Go.Proofs.Ytjapidajammkbaa
open Go.RowKit Go.Fl

set_option maxHeartbeats 1000000 in
theorem eqF3 (lo hi lo' hi' a b off : Nat) (ca cb : Nat) (os : List Ol) (hn : os.length ≤ 1048576) (hok : ∀ o, o ∈ os → Fits o.2) (w : World) (ha : SlOo w lo hi a 0 os) (hb : SlOo w lo' hi' b off os) (h1 : hi ≤ w.heap.size) (h2 : hi' ≤ w.heap.size) :
    Calls Try.prog 24 #[.slice (some ⟨a, 0, none⟩) os.length ca, .slice (some ⟨b, off, none⟩) os.length cb, .func (.func 25) #[] #[]] w fun e w' => e = .returned (.bool true) ∧ Below w.heap.size w w' := by
  have HA := Lib.hid ha
  have HB := Lib.hid hb
  have HF := Lib.hid hok
  clear ha hb hok
  go_enter Try.func24, Try.ntmps24
  go_wp2_with fail
  go_loopw [17] (fun i wr => ∃ k : Nat, k ≤ os.length ∧ i = .int .i64 k ∧ Hid (Below w.heap.size w wr)) (fun i _ => os.length - (intOf i).toNat)
  case atStart => exact ⟨0, by omega, rfl, Below.refl _ _⟩
  case round =>
    obtain ⟨k, hk, rfl, HW⟩ := hrel
    by_cases hlt : k < os.length
    · have z1 := HW.out.size
      have SA := HA.out.far (Far.below HW.out h1)
      have SB := HB.out.far (Far.below HW.out h2)
      obtain ⟨la, lb, hc1⟩ := SA
      obtain ⟨lc, ld, hc2⟩ := SB
      obtain ⟨a1, d1, c1, c1', s1⟩ := hc1 k hlt
      obtain ⟨a2, d2, c2, c2', s2⟩ := hc2 k hlt
      have S1 := Lib.hid s1
      have S2 := Lib.hid s2
      have hfk := HF.out _ (olAt_mem hlt)
      have hlk : (olAt os k).2.length ≤ 1048576 := by have := hfk.1; omega
      have HK := Lib.hid hfk.2.2
      have na : a < wr.heap.size := by omega
      have nb : b < wr.heap.size := by omega
      have na' : ¬ a = wr.heap.size := by omega
      have nb' : ¬ b = wr.heap.size := by omega
      clear hc1 hc2 s1 s2 hfk
      simp only [Nat.zero_add] at c1 c1'
      have k0 : (0 : Int) ≤ (k : Int) := by omega
      have k1 : (k : Int) < (os.length : Int) := by omega
      go_wp2_with fail
      refine (same1 lo hi lo' hi' a1 a2 d1 d2 (olAt os k).1 (olAt os k).2 hlk HK.out _ (S1.out.far (((Far.refl _ _ _).alloc _ (by omega)).alloc _ (by first | omega | (simp; done) | (simp; omega)))) (S2.out.far (((Far.refl _ _ _).alloc _ (by omega)).alloc _ (by first | omega | (simp; done) | (simp; omega)))) (by first | omega | (simp; done) | (simp; omega)) (by first | omega | (simp; done) | (simp; omega))).mono ?_
      rintro e w3 ⟨rfl, hb3⟩
      have hb3' : Below wr.heap.size wr w3 := (Below.alloc (Below.alloc (Below.refl _ _) (Nat.le_refl _) _) (by first | omega | (simp; done) | (simp; omega)) _).trans (hb3.mono (by first | omega | (simp; done) | (simp; omega)))
      have HW3 := Lib.hid (HW.out.trans (hb3'.mono z1))
      clear hb3 hb3'
      go_wp2_with fail
      go_roundw
      case rel => exact ⟨k + 1, by omega, by go_num, HW3⟩
      case measure => simp [intOf]; omega
    · go_wp2_with fail
      go_ret
      exact ⟨rfl, HW.out⟩

theorem sameOutlines (lo hi lo' hi' a b off : Nat) (ca cb : Nat) (os : List Ol) (hn : os.length ≤ 1048576) (hok : ∀ o, o ∈ os → Fits o.2) (w : World) (ha : SlOo w lo hi a 0 os) (hb : SlOo w lo' hi' b off os) (h1 : hi ≤ w.heap.size) (h2 : hi' ≤ w.heap.size) :
    Calls Try.prog 9 #[.slice (some ⟨a, 0, none⟩) os.length ca, .slice (some ⟨b, off, none⟩) os.length cb] w fun e w' => e = .returned (.bool true) ∧ Below w.heap.size w w' := by
  have H := Lib.hid (eqF3 lo hi lo' hi' a b off ca cb os hn hok w ha hb h1 h2)
  clear ha hb hok
  go_enter Try.func9, Try.ntmps9
  go_wp2_with fail
  refine H.out.mono ?_
  rintro e w3 ⟨rfl, hb3⟩
  have HB := Lib.hid hb3
  clear hb3
  go_wp2_with fail
  go_ret
  exact ⟨rfl, HB.out⟩

def stoS (o : Ol) : ByteArray := ⟨(stoB o.1 o.2).toArray⟩
def catS (os : List Ol) : ByteArray := ⟨(catB os).toArray⟩
set_option maxHeartbeats 1000000 in
theorem storeOutlines (lo hi a : Nat) (ca : Nat) (os : List Ol) (hn : os.length ≤ 8) (hg : ∀ o, o ∈ os → GoodO o) (w : World) (ha : SlOo w lo hi a 0 os) (h1 : hi ≤ w.heap.size) :
    Calls Try.prog 10 #[.slice (some ⟨a, 0, none⟩) os.length ca] w fun e w' => e = .returned (.tuple #[.string (catS os), .bool true]) ∧ Below w.heap.size w w' := by
  have HA := Lib.hid ha
  have HG := Lib.hid hg
  have n8 : (os.length : Int) ≤ 8 := by omega
  clear ha hg
  go_enter Try.func10, Try.ntmps10
  go_wp2_with fail
  go_loopw [4, 14] (fun o i wr => ∃ (k : Nat) (T : ByteArray), k ≤ os.length ∧ i = .int .i64 k ∧ o = .string T ∧ Hid (T = catS (os.take k)) ∧ Hid (Below w.heap.size w wr)) (fun _ i _ => os.length - (intOf i).toNat)
  case atStart => exact ⟨0, ⟨#[]⟩, by omega, rfl, rfl, Lib.hid rfl, Below.refl _ _⟩
  case round =>
    obtain ⟨k, T, hk, rfl, rfl, HT, HW⟩ := hrel
    by_cases hlt : k < os.length
    · have z1 := HW.out.size
      obtain ⟨la, lb, hc1⟩ := HA.out.far (Far.below HW.out h1)
      obtain ⟨a1, d1, c1, c1', s1⟩ := hc1 k hlt
      have S1 := Lib.hid s1
      have hgk := HG.out _ (olAt_mem hlt)
      have HGK := Lib.hid hgk
      have na : a < wr.heap.size := by omega
      have na' : ¬ a = wr.heap.size := by omega
      clear hc1 s1 hgk
      simp only [Nat.zero_add] at c1 c1'
      have k0 : (0 : Int) ≤ (k : Int) := by omega
      have k1 : (k : Int) < (os.length : Int) := by omega
      go_wp2_with fail
      refine (storeYes lo hi a1 d1 (olAt os k).1 (olAt os k).2 HGK.out.1 HGK.out.2 _ (S1.out.far ((Far.refl _ _ _).alloc _ (by omega))) (by first | omega | (simp; done) | (simp; omega))).mono ?_
      rintro e w3 ⟨rfl, hb3⟩
      have hb3' : Below wr.heap.size wr w3 := (Below.alloc (Below.refl _ _) (Nat.le_refl _) _).trans (hb3.mono (by first | omega | (simp; done) | (simp; omega)))
      have HW3 := Lib.hid (HW.out.trans (hb3'.mono z1))
      obtain ⟨X, hX⟩ : ∃ X : ByteArray, X = ⟨(stoB (olAt os k).1 (olAt os k).2).toArray⟩ := ⟨_, rfl⟩
      rw [← hX]
      have HX := Lib.hid hX
      have hsz : ¬ T.size + X.size > 9223372036854775807 := by
        have e1 : T.size = (catB (os.take k)).length := by rw [HT.out]; show (catB (os.take k)).toArray.size = _; simp
        have e2 : X.size = (stoB (olAt os k).1 (olAt os k).2).length := by rw [HX.out]; show (stoB (olAt os k).1 (olAt os k).2).toArray.size = _; simp
        have l1 := catB_le (os := os.take k) fun o ho => HG.out o (List.mem_of_mem_take ho)
        have l2 := stoB_le HGK.out
        have l3 : (os.take k).length = k := by simp; omega
        omega
      clear hb3 hb3' hX
      go_wp2_with fail
      refine ⟨⟨k + 1, T ++ X, by omega, by go_num, rfl, Lib.hid ?_, HW3⟩, by simp [intOf]; omega⟩
      rw [HT.out, HX.out]
      unfold catS
      rw [catB_take hlt]
      exact ByteArray.mk_append_mk _ _
    · have hkk : k = os.length := by omega
      subst hkk
      have hT := HT.out
      rw [List.take_length] at hT
      subst hT
      go_wp2_with fail
      go_ret2
      exact ⟨rfl, HW.out⟩
end Go.Proofs.Ytjapidajammkbaa

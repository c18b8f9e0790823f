/- Rings: corners cut. -/
import Derived.Test.YtkpjhoiaegioeaaRgA
import Derived.Test.YtkpjhoiaegioeaaSprd
namespace Go.Fl
open Ieee Go.RowKit
theorem tm_mid {n : Nat} {t : Int} (hn : 0 < n) (h0 : 0 ≤ t) (h1 : t < 2 * n) : (t.tmod n + n).tmod n = if t < n then t else t - n := by
  rw [Int.tmod_eq_emod_of_nonneg h0]
  by_cases h : t < n
  · rw [if_pos h, Int.emod_eq_of_lt h0 h, Int.tmod_eq_emod_of_nonneg (by omega), Int.add_emod_right, Int.emod_eq_of_lt h0 h]
  · have e : t = (t - n) + n := by omega
    have h2 : t % n = t - n := by
      have := Int.add_emod_right (t - n) (n : Int)
      rw [← e] at this
      rw [this, Int.emod_eq_of_lt (by omega) (by omega)]
    rw [if_neg h, h2, Int.tmod_eq_emod_of_nonneg (by omega), Int.add_emod_right, Int.emod_eq_of_lt (by omega) (by omega)]
theorem tm_nx {n k : Nat} (hk : k < n) : (((k : Int) + 1).tmod n + n).tmod n = (nx n k : Nat) := by
  rw [tm_mid (by omega) (by omega) (by omega)]
  unfold nx
  by_cases h : k + 1 = n
  · rw [if_neg (by omega), if_pos h]; omega
  · rw [if_pos (by omega), if_neg h]; omega
theorem tm_nx2 {n k : Nat} (hk : k < n) (hn : 2 ≤ n) : (((k : Int) + 2).tmod n + n).tmod n = (nx n (nx n k) : Nat) := by
  rw [tm_mid (by omega) (by omega) (by omega)]
  unfold nx
  by_cases h : k + 1 = n
  · rw [if_neg (by omega), if_pos h, if_neg (by omega)]; omega
  · rw [if_neg h]
    by_cases h2 : k + 1 + 1 = n
    · rw [if_neg (by omega), if_pos h2]; omega
    · rw [if_pos (by omega), if_neg h2]; omega
theorem tm_pv {n k : Nat} (hk : k < n) (hn : 2 ≤ n) : (((k : Int) + -1).tmod n + n).tmod n = (pv n k : Nat) := by
  unfold pv
  by_cases h : k = 0
  · subst h
    rw [if_pos rfl]
    have e : ((0 : Nat) : Int) + -1 = -(1 : Int) := by omega
    rw [e, Int.neg_tmod, Int.tmod_eq_of_lt (a := 1) (b := (n : Int)) (by decide) (by omega), Int.tmod_eq_of_lt (by omega) (by omega)]
    omega
  · rw [tm_mid (by omega) (by omega) (by omega), if_pos (by omega), if_neg h]; omega
theorem tm_0 {n k : Nat} (hk : k < n) : (((k : Int) + 0).tmod n + n).tmod n = (k : Nat) := by
  rw [tm_mid (by omega) (by omega) (by omega), if_pos (by omega)]; omega
def cutVF (xs : List Cx) (s i : Nat) : Cx := plusF (cAt xs i) (scaleF (minusF (cAt xs (nx xs.length i)) (cAt xs i)) s)
def cutMF (xs : List Cx) (s i : Nat) : Cx := minusF (cAt xs (nx xs.length i)) (scaleF (minusF (cAt xs (nx xs.length i)) (cAt xs i)) s)
def cutF (xs : List Cx) (closed : Bool) (s : Nat) : List Cx := cutA (cAt xs 0) (cutVF xs s) (cutMF xs s) (cAt xs (xs.length - 1)) closed xs.length
def cutVZ (ks : List Zp) (j : Int) (i : Nat) : Zp := addZ (mulZ (zAt ks i) 16) (mulZ (subZ (zAt ks (nx ks.length i)) (zAt ks i)) j)
def cutMZ (ks : List Zp) (j : Int) (i : Nat) : Zp := subZ (mulZ (zAt ks (nx ks.length i)) 16) (mulZ (subZ (zAt ks (nx ks.length i)) (zAt ks i)) j)
def cutZ (ks : List Zp) (closed : Bool) (j : Int) : List Zp := cutA (mulZ (zAt ks 0) 16) (cutVZ ks j) (cutMZ ks j) (mulZ (zAt ks (ks.length - 1)) 16) closed ks.length
theorem low.sub {p q : Zp} {B C : Nat} (hp : low p B) (hq : low q B) (hC : 2 * B ≤ C) : low (subZ p q) C := by
  have h1 := hp.1; have h2 := hp.2; have h3 := hq.1; have h4 := hq.2
  exact ⟨by show (p.1 - q.1).natAbs ≤ C; omega, by show (p.2 - q.2).natAbs ≤ C; omega⟩
theorem low.add {p q : Zp} {B C : Nat} (hp : low p B) (hq : low q B) (hC : 2 * B ≤ C) : low (addZ p q) C := by
  have h1 := hp.1; have h2 := hp.2; have h3 := hq.1; have h4 := hq.2
  exact ⟨by show (p.1 + q.1).natAbs ≤ C; omega, by show (p.2 + q.2).natAbs ≤ C; omega⟩
theorem low.mul {p : Zp} {B : Nat} (hp : low p B) {j : Int} {c C : Nat} (hj : j.natAbs ≤ c) (hC : B * c ≤ C) : low (mulZ p j) C :=
  ⟨by show (p.1 * j).natAbs ≤ C; rw [Int.natAbs_mul]; exact Nat.le_trans (Nat.mul_le_mul hp.1 hj) hC, by show (p.2 * j).natAbs ≤ C; rw [Int.natAbs_mul]; exact Nat.le_trans (Nat.mul_le_mul hp.2 hj) hC⟩
theorem mix_low {a b j : Int} {B : Nat} (ha : a.natAbs ≤ B) (hb : b.natAbs ≤ B) (h0 : 0 ≤ j) (h1 : j ≤ 16) : (a * 16 + (b - a) * j).natAbs ≤ 16 * B := by
  have e : a * 16 + (b - a) * j = a * (16 - j) + b * j := by rw [Int.sub_mul, Int.mul_sub]; omega
  rw [e]
  refine Nat.le_trans (Int.natAbs_add_le _ _) ?_
  rw [Int.natAbs_mul, Int.natAbs_mul]
  have m1 := Nat.mul_le_mul ha (Nat.le_refl (16 - j).natAbs)
  have m2 := Nat.mul_le_mul hb (Nat.le_refl j.natAbs)
  have e2 : 16 * B = B * (16 - j).natAbs + B * j.natAbs := by
    rw [← Nat.mul_add]
    have : (16 - j).natAbs + j.natAbs = 16 := by omega
    rw [this, Nat.mul_comm]
  omega
theorem cutV_px {xs : List Cx} {ks : List Zp} {e B s i : Nat} {j : Int} (h : PL xs ks e B) (hB : B ≤ 4096) (hs : Q .f32 s j 4) (h0 : 0 ≤ j) (h1 : j ≤ 8) (he : e ≤ 100) (hi : i < xs.length) :
    PX (cutVF xs s i) (cutVZ ks j i) (e + 4) ∧ low (cutVZ ks j i) (16 * B) := by
  have hl := h.len
  unfold cutVF cutVZ
  rw [hl]
  obtain ⟨pa, la⟩ := h.pt i hi
  obtain ⟨pb, lb⟩ := h.pt _ (nx_lt hi)
  obtain ⟨n, hn⟩ : ∃ n, n = nx xs.length i := ⟨_, rfl⟩
  rw [← hn] at pb lb ⊢
  have l4 : ∀ p : Zp, low p B → low p 4194304 := fun p hp => hp.mono (by omega)
  have d := pb.minus pa (l4 _ lb) (l4 _ la)
  have ld := low.sub lb la (C := 65536) (by omega)
  have sc := d.scale hs ld (by omega) (by omega)
  refine ⟨(pa.shift 4 (by omega)).plus sc (la.mul (c := 16) (by decide) (by omega)) (ld.mul (c := 8) (by omega) (by omega)), ?_, ?_⟩
  · exact mix_low la.1 lb.1 h0 (by omega)
  · exact mix_low la.2 lb.2 h0 (by omega)
theorem cutM_px {xs : List Cx} {ks : List Zp} {e B s i : Nat} {j : Int} (h : PL xs ks e B) (hB : B ≤ 4096) (hs : Q .f32 s j 4) (h0 : 0 ≤ j) (h1 : j ≤ 8) (he : e ≤ 100) (hi : i < xs.length) :
    PX (cutMF xs s i) (cutMZ ks j i) (e + 4) ∧ low (cutMZ ks j i) (16 * B) := by
  have hl := h.len
  unfold cutMF cutMZ
  rw [hl]
  obtain ⟨pa, la⟩ := h.pt i hi
  obtain ⟨pb, lb⟩ := h.pt _ (nx_lt hi)
  obtain ⟨n, hn⟩ : ∃ n, n = nx xs.length i := ⟨_, rfl⟩
  rw [← hn] at pb lb ⊢
  have l4 : ∀ p : Zp, low p B → low p 4194304 := fun p hp => hp.mono (by omega)
  have d := pb.minus pa (l4 _ lb) (l4 _ la)
  have ld := low.sub lb la (C := 65536) (by omega)
  have sc := d.scale hs ld (by omega) (by omega)
  have key : ∀ a b : Int, a.natAbs ≤ B → b.natAbs ≤ B → (b * 16 - (b - a) * j).natAbs ≤ 16 * B := fun a b ha hb => by
    have := mix_low hb ha h0 (show j ≤ 16 by omega)
    have e : b * 16 + (a - b) * j = b * 16 - (b - a) * j := by rw [Int.sub_mul, Int.sub_mul]; omega
    rw [e] at this; exact this
  refine ⟨(pb.shift 4 (by omega)).minus sc (lb.mul (c := 16) (by decide) (by omega)) (ld.mul (c := 8) (by omega) (by omega)), ?_, ?_⟩
  · exact key _ _ la.1 lb.1
  · exact key _ _ la.2 lb.2
theorem cut_PL {xs : List Cx} {ks : List Zp} {e B s : Nat} {j : Int} {closed : Bool} (h : PL xs ks e B) (hB : B ≤ 4096) (hs : Q .f32 s j 4) (h0 : 0 ≤ j) (h1 : j ≤ 8) (he : e ≤ 100) (hn : 0 < xs.length) :
    PL (cutF xs closed s) (cutZ ks closed j) (e + 4) (16 * B) := by
  unfold cutF cutZ
  rw [h.len]
  refine cutA_PL hn ?_ ?_ (fun i hi _ => cutV_px h hB hs h0 h1 he hi) (fun i hi _ => cutM_px h hB hs h0 h1 he hi)
  · obtain ⟨p, l⟩ := h.pt 0 hn
    exact ⟨p.shift 4 (by omega), l.mul (c := 16) (by decide) (by omega)⟩
  · obtain ⟨p, l⟩ := h.pt (xs.length - 1) (by omega)
    exact ⟨p.shift 4 (by omega), l.mul (c := 16) (by decide) (by omega)⟩
theorem cutF_len (xs : List Cx) (closed : Bool) (s : Nat) (hn : 0 < xs.length) : (cutF xs closed s).length = 2 * xs.length := cutA_len _ _ _ _ _ _ hn
theorem cVs_one' (l : List Cx) : ∀ u ∈ l.map cV, u.oneCell' = true := fun u hu => by
  obtain ⟨z, _, rfl⟩ := List.mem_map.1 hu
  rfl
end Go.Fl
namespace Go.Proofs.Ytkpjhoiaegioeaa
open Go.RowKit Go.Fl

/-- an append of points just made onto a row of points -/
theorem wpList_appC {ops : Array Oper} {rest : List Oper} {o : Oper} {a : Act} {Q : Exit → Act → World → Prop} (hgd : o.guard = none) (s x : Operand)
    (ho : o.op = .call { callee := .builtin .append, args := #[s, x], argTypes := #[24, 24] })
    (w0 : World) (cells : Array Value) (zs : List Cx) (hz : cells.toList = zs.map cV) (hz0 : 0 < zs.length) (hz9 : zs.length ≤ 100) (e' : TypeId)
    (nb b cap n m c : Nat) (xs : List Cx) (hs : a.eval s = .slice (some ⟨b, 0, none⟩) n cap) (hx : a.eval x = .slice (some ⟨nb, 0, none⟩) m c) (hm : m = zs.length) (hnb : nb = w0.heap.size) (hrow : ORow w0 26 1 b cap n (xs.map cV)) (hn : n ≤ 1000000)
    (h : ∀ b' cap' w1, ORow w1 26 1 b' cap' (n + m) ((xs ++ zs).map cV) → (b' = b ∨ w0.heap.size < b') → Grew b w0 w1 → wpList Try.prog ops Q rest (a.put o.dst (.slice (some ⟨b', 0, none⟩) (n + m) cap')) w1) :
    wpList Try.prog ops Q (o :: rest) a (w0.alloc (.cells cells e')) := by
  have hlt := hrow.lt
  have hrow' : ORow (w0.alloc (.cells cells e')) 26 1 b cap n (xs.map cV) := hrow.far ((Far.refl 0 w0.heap.size w0).alloc _ (Nat.le_refl _)) (Nat.zero_le _) hlt
  refine wpList_spread hgd s x _ ho 26 (.complex .f32 0 0) 1 8 Try.underlying24 infoCx rfl (by decide) _ b cap n _ hs hrow' ⟨nb, 0, none⟩ m c (zs.map cV) hx (by rw [hm]; simp) (fun j u hu => ?_) (cVs_one' zs) (by omega) (by omega) (by decide) (fun b' cap' w1 hr hb hl hg => ?_)
  · rw [← hz] at hu
    rw [hnb]
    exact World.news_of_block (heap_alloc_new w0 (.cells cells e')) j u hu
  · refine h b' cap' w1 (by rw [List.map_append]; exact hr) (hb.imp id fun h => by simp at h; omega) ⟨hg.os, hg.tape, hg.output, Nat.le_trans (by simp) hg.size, fun c hc hne => ?_⟩
    rw [hg.block c (by simp; omega) hne]
    exact RowKit.Below.heap_alloc _ _ _ hc
end Go.Proofs.Ytkpjhoiaegioeaa

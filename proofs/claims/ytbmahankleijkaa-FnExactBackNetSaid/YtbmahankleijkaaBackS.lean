/- Contract: BackNet, the reference's. -/
import Derived.Test.YtbmahankleijkaaBackD
import Derived.Test.YtbmahankleijkaaOwnS
namespace Go.Proofs.Ytbmahankleijkaa
open Go.RowKit Go.Fl

/-- place p of facet i, the first j facets turned, and k places of facet j -/
def bkF (fs : List (List Int)) (j k : Nat) (i p : Nat) : Int :=
  if i < j ∨ (i = j ∧ (fAt fs i).length ≤ p + k) then iAt (fAt fs i) ((fAt fs i).length - 1 - p) else iAt (fAt fs i) p
theorem bkF_zero {fs : List (List Int)} {i p : Nat} (h : p < (fAt fs i).length) : bkF fs 0 0 i p = iAt (fAt fs i) p := by
  unfold bkF; rw [if_neg (by omega)]
theorem bkF_next {fs : List (List Int)} {j i p : Nat} (h : p < (fAt fs i).length) : bkF fs j (fAt fs j).length i p = bkF fs (j + 1) 0 i p := by
  unfold bkF
  by_cases h1 : i < j
  · rw [if_pos (.inl h1), if_pos (.inl (by omega))]
  · by_cases h2 : i = j
    · subst h2
      rw [if_pos (.inr ⟨rfl, by omega⟩), if_pos (.inl (by omega))]
    · rw [if_neg (by omega), if_neg (by omega)]
theorem bkF_all {fs : List (List Int)} {i p : Nat} (h : i < fs.length) : bkF fs fs.length 0 i p = iAt (fAt fs i) ((fAt fs i).length - 1 - p) := by
  unfold bkF; rw [if_pos (.inl h)]
theorem bkF_here {fs : List (List Int)} {j k : Nat} (h : k < (fAt fs j).length) : bkF fs j (k + 1) j ((fAt fs j).length - 1 - k) = iAt (fAt fs j) k := by
  unfold bkF; rw [if_pos (.inr ⟨rfl, by omega⟩)]; congr 1; omega
theorem bkF_there {fs : List (List Int)} {j k i p : Nat} (hk : k < (fAt fs j).length) (h : ¬ (i = j ∧ p = (fAt fs j).length - 1 - k)) : bkF fs j (k + 1) i p = bkF fs j k i p := by
  unfold bkF
  by_cases h1 : i < j
  · rw [if_pos (.inl h1), if_pos (.inl h1)]
  · by_cases h2 : i = j
    · subst h2
      by_cases h3 : (fAt fs i).length ≤ p + k
      · rw [if_pos (.inr ⟨rfl, by omega⟩), if_pos (.inr ⟨rfl, h3⟩)]
      · rw [if_neg (by omega), if_neg (by omega)]
    · rw [if_neg (by omega), if_neg (by omega)]
theorem keep_set1 {w : World} {b b' o i : Nat} {v x : Value} (hne : b ≠ b') (h : w.cell? ⟨b, o, none⟩ = some v) : (w.setCell ⟨b', i, none⟩ x).cell? ⟨b, o, none⟩ = some v := by
  rw [World.cell?_setCell_far _ _ _ _ (Ne.symm hne), h]
theorem keep_set1d {w : World} {b b' o i : Nat} {v x : Value} (hne : b ≠ b') (h : w.cell? ⟨b, o, none⟩ = some v) : (w.setCell ⟨b', i, none⟩ x).drew.cell? ⟨b, o, none⟩ = some v := keep_set1 hne h
theorem Cors.step {w : World} {fs : List (List Int)} {g : Nat → Nat} {j k : Nat} (h : Cors w g fs (bkF fs j k)) (hj : j < fs.length) (hk : k < (fAt fs j).length) (hinj : ∀ i, i < fs.length → i ≠ j → g i ≠ g j) {q : Nat} (hq : q = (fAt fs j).length - 1 - k) {v : Value} (hv : v = .int .i64 (iAt (fAt fs j) k)) :
    Cors (w.setCell ⟨g j, q, none⟩ v) g fs (bkF fs j (k + 1)) := fun i hi p hp => by
  subst hq hv
  by_cases hij : i = j
  · subst hij
    by_cases hp2 : p = (fAt fs i).length - 1 - k
    · subst hp2
      rw [bkF_here hk]
      exact World.cell?_setCell_same _ _ _ (h i hi _ hp)
    · rw [bkF_there hk (by omega), World.cell?_setCell_other _ _ _ _ (by simp only [ne_eq, Addr.mk.injEq]; omega)]
      exact h i hi p hp
  · rw [bkF_there hk (by omega), World.cell?_setCell_far _ _ _ _ (by simp; exact fun e => hinj i hi hij e.symm)]
    exact h i hi p hp

set_option maxHeartbeats 4000000 in
set_option maxRecDepth 100000 in
theorem backS (lo hi : Nat) (sa fa : Option Addr) (sc fc : Nat) (ps : List Sp) (fs : List (List Int)) (hp : ps.length ≤ 1048576) (hn : fs.length ≤ 1048576) (hsh : ∀ i, i < fs.length → (fAt fs i).length ≤ 1048576) (w : World)
    (hs : NetAt w lo hi sa fa ps fs) (hh : hi ≤ w.heap.size) :
    Calls Try.prog 30 #[netV sa fa ps.length sc fs.length fc] w (RetN (backP ps fs) (backF ps fs) (okN ps fs) w) := by
  have hA : Far lo hi w ((w.alloc (.cells #[.slice sa ps.length sc, .slice fa fs.length fc] 33)).alloc (.cells #[.slice none 0 0, .slice none 0 0] 33)) := ((Far.refl _ _ _).alloc _ hh).alloc _ (by simp; omega)
  have A0 : OwnC ((w.alloc (.cells #[.slice sa ps.length sc, .slice fa fs.length fc] 33)).alloc (.cells #[.slice none 0 0, .slice none 0 0] 33)) w.heap.size #[.slice sa ps.length sc, .slice fa fs.length fc] 33 := (OwnC.new rfl).alloc _
  have R0 : OwnC ((w.alloc (.cells #[.slice sa ps.length sc, .slice fa fs.length fc] 33)).alloc (.cells #[.slice none 0 0, .slice none 0 0] 33)) (w.heap.size + 1) #[.slice none 0 0, .slice none 0 0] 33 := OwnC.new (by simp)
  have HBA : Hid (Below w.heap.size w ((w.alloc (.cells #[.slice sa ps.length sc, .slice fa fs.length fc] 33)).alloc (.cells #[.slice none 0 0, .slice none 0 0] 33))) := by
    show Below _ _ _
    (repeat (first | exact Below.refl _ _ | assumption | refine below_dr ?_ _ | refine Below.alloc ?_ (by first | omega | (simp; done) | (simp; omega)) _ | refine Below.setCell ?_ (by first | omega | (simp; done) | (simp; omega)) _ | refine Below.trans ?_ (Below.mono (by assumption) (by first | omega | (simp; done) | (simp; omega)))))
  have IS := Lib.hid (l06Is lo hi w.heap.size sa fa sc fc ps fs hp hn hsh _ (A0.cell 0) (A0.cell 1) (hs.far hA) (by simp; omega))
  have HS := Lib.hid (hs.far hA)
  have HSH := Lib.hid hsh
  have HA0 := Lib.hid A0
  have HR0 := Lib.hid R0
  clear hs hsh A0 R0 hA
  unfold netV
  cases hv : okN ps fs
  · have HV : Hid (dec (OkNet ps fs (colA fs) (colB fs)) = false) := Lib.hid hv
    have HC := Lib.hid hv
    clear hv
    go_enter Try.func30, Try.ntmps30
    go_wp2_with (go_at_call 44; refine IS.out.mono ?_; rintro e w3 ⟨rfl, hb3⟩; rw [HV.out]; have R3 := HR0.out.below hb3 (by simp); have r0 := R3.cell 0; have r1 := R3.cell 1; have g0 := R3.free 0; have g1 := R3.free 1; simp at r0 r1)
    have R := (R3.set 0 (.slice none 0 0)).set 1 (.slice none 0 0)
    have q0 := R.cell 0
    have q1 := R.cell 1
    simp at q0 q1
    refine bodyPost_ret (v := .tuple #[.agg #[.slice none 0 0, .slice none 0 0], .bool false]) (by simp [results, Try.results30, go_sem, *]) rfl ?_
    have h0 := RetN.no HC.out (((HBA.out.trans (hb3.mono (by simp; omega))).setCell (p := ⟨w.heap.size + 1, 0, none⟩) (by simp) (.slice none 0 0)).setCell (p := ⟨w.heap.size + 1, 1, none⟩) (by simp) (.slice none 0 0))
    rw [HC.out] at h0
    exact h0
  have HV : Hid (dec (OkNet ps fs (colA fs) (colB fs)) = true) := Lib.hid hv
  have hok := okN_net hv
  have hp0 : 0 < ps.length := by have := hok.n3; omega
  have hn0 : 0 < fs.length := by have := hok.f1; omega
  have H1 : Hid (∀ i, i < fs.length → 0 < (fAt fs i).length) := Lib.hid fun i h => by have := (hok.facets i h).1; omega
  have HC1 : Hid (backP ps fs = ps) := Lib.hid (by simp [backP, hv])
  have HC2 : Hid (backF ps fs = fs.map List.reverse) := Lib.hid (by simp [backF, hv])
  clear hok hv
  go_enter Try.func30, Try.ntmps30
  go_wp2_with (first
    | (go_at_call 44; refine IS.out.mono ?_; rintro e w3 ⟨rfl, hb3⟩; rw [HV.out]; have HB3 := Lib.hid (HBA.out.trans (hb3.mono (by simp; omega))); have HA3 := Lib.hid (HA0.out.below hb3 (by simp; omega)); have HR3 := Lib.hid (HR0.out.below hb3 (by simp)); have HS3 := Lib.hid (HS.out.far (Far.below hb3 (by simp; omega))); have z3 : w.heap.size + 1 + 1 ≤ w3.heap.size := (by have := hb3.size; simpa using this); clear hb3)
    | (go_at_call 62; refine (l06Own lo hi w.heap.size sa fa sc fc ps fs hp hn HSH.out hp0 hn0 H1.out w3 (HA3.out.cell 0) (HA3.out.cell 1) HS3.out (by omega)).mono ?_; rintro e w4 ⟨⟨bs, c1, bf, c2, g, rfl, hN4⟩, hb4⟩; have HN4 := Lib.hid hN4; have HB4 := Lib.hid (HB3.out.trans (hb4.mono (by omega))); have HA4 := Lib.hid (HA3.out.below hb4 (by omega)); have HR4 := Lib.hid (HR3.out.below hb4 (by omega)); have HS4 := Lib.hid (HS3.out.far (Far.below hb4 (by omega))); have z4 := hb4.size; clear hN4 hb4))
  have hO : OwnC (w4.alloc (.cells #[.slice (some ⟨bs, 0, none⟩) ps.length c1, .slice (some ⟨bf, 0, none⟩) fs.length c2] 33)) w4.heap.size #[.slice (some ⟨bs, 0, none⟩) ps.length c1, .slice (some ⟨bf, 0, none⟩) fs.length c2] 33 := OwnC.new rfl
  have hB : Below w4.heap.size w4 (w4.alloc (.cells #[.slice (some ⟨bs, 0, none⟩) ps.length c1, .slice (some ⟨bf, 0, none⟩) fs.length c2] 33)) := Below.alloc (Below.refl _ _) (Nat.le_refl _) _
  have z5 : (w4.alloc (.cells #[.slice (some ⟨bs, 0, none⟩) ps.length c1, .slice (some ⟨bf, 0, none⟩) fs.length c2] 33)).heap.size = w4.heap.size + 1 := by simp
  generalize w4.alloc (.cells #[.slice (some ⟨bs, 0, none⟩) ps.length c1, .slice (some ⟨bf, 0, none⟩) fs.length c2] 33) = w5 at *
  have HO5 := Lib.hid hO
  have HB5 := Lib.hid (HB4.out.trans (hB.mono (by omega)))
  have HA5 := Lib.hid (HA4.out.below hB (by omega))
  have HR5 := Lib.hid (HR4.out.below hB (by omega))
  have HS5 := Lib.hid (HS4.out.far (Far.below hB (by omega)))
  have HN5 := Lib.hid (HN4.out.far (Far.below hB (by omega)))
  clear hO hB HB4 HA4 HR4 HS4 HN4 HB3 HA3 HR3 HS3 HA0 HR0 HBA HS IS
  have hF := HN5.out.facets
  have HG : Hid (∀ i, i < fs.length → w3.heap.size ≤ g i ∧ g i < w4.heap.size ∧ g i ≠ bf) := Lib.hid hF.blk
  have HINJ : Hid (∀ i k, i < fs.length → k < fs.length → i ≠ k → g i ≠ g k) := Lib.hid fun i k hi hk hne => by
    rcases Nat.lt_or_gt_of_ne hne with h | h
    · exact hF.inj i k h hk
    · exact fun e => hF.inj k i h hi e.symm
  have hrowb := hF.row
  clear hF
  have HI0 : Hid (Cors w5 g fs (bkF fs 0 0)) := Lib.hid fun i hi p hp => by rw [bkF_zero hp]; exact HN5.out.facets.cors i hi p hp
  go_loopw [5] (fun i wr => ∃ j : Nat, j ≤ fs.length ∧ i = .int .i64 j ∧ Hid (Only (Corn g fs.length) w5 wr) ∧ Hid (Cors wr g fs (bkF fs j 0))) (fun i _ => fs.length - (intOf i).toNat)
  case atStart => exact ⟨0, by omega, rfl, Lib.hid (Only.refl _ _), HI0⟩
  case round =>
    clear HI0
    obtain ⟨j, hj, rfl, HON, HCO⟩ := hrel
    have hnc : ∀ b, b < w3.heap.size ∨ w4.heap.size ≤ b ∨ b = bf → ¬ Corn g fs.length b := fun b hb => by
      rintro ⟨i, hi, e⟩
      have := HG.out i hi
      omega
    have a1 := (HON.out.cell (o := 1) (hnc w.heap.size (by omega))).trans (HA5.out.cell 1)
    simp at a1
    by_cases hlt : j < fs.length
    · obtain ⟨b2, o2, rfl, f1, f2, hc⟩ := HS5.out.facets (by omega)
      obtain ⟨ai, ci, hc1, hs1⟩ := hc j hlt
      have e1 := (HON.out.cell (hnc b2 (by omega))).trans hc1
      have HS1 := Lib.hid hs1
      have hlp := H1.out j hlt
      obtain ⟨b3, o3, rfl, f3, f4, _⟩ := hs1 hlp
      have hlj := HSH.out j hlt
      have k0 : (0 : Int) ≤ (j : Int) := by omega
      have k1 : (j : Int) < (fs.length : Int) := by omega
      clear hc hc1 hs1
      go_wp2_with fail
      go_loopw [7] (fun i wq => ∃ k : Nat, k ≤ (fAt fs j).length ∧ i = .int .i64 k ∧ Hid (Only (Corn g fs.length) w5 wq) ∧ Hid (Cors wq g fs (bkF fs j k))) (fun i _ => (fAt fs j).length - (intOf i).toNat)
      case atStart => exact ⟨0, by omega, rfl, HON, HCO⟩
      case round =>
        clear HON HCO a1 e1
        obtain ⟨k, hk, rfl, HON, HCO⟩ := hrel
        by_cases hlt2 : k < (fAt fs j).length
        · obtain ⟨b3', o3', e3, _, _, hc3⟩ := HS1.out hlp
          cases e3
          have e2 := (HON.out.cell (hnc b3 (by omega))).trans (hc3 k hlt2)
          have o1 := (HON.out.cell (o := 1) (hnc w4.heap.size (by omega))).trans (HO5.out.cell 1)
          simp at o1
          obtain ⟨cg, hd⟩ := HN5.out.facets.head j hlt
          have h1 := (HON.out.cell (hnc bf (by omega))).trans hd
          obtain ⟨q, hq⟩ : ∃ q, q = (fAt fs j).length - 1 - k := ⟨_, rfl⟩
          have hql : q < (fAt fs j).length := by omega
          have st := HCO.out j hlt q hql
          have sf := (HON.out.room _ _ (HN5.out.facets.room j hlt)).free q
          have u1 : IntKind.i64.wrap (((fAt fs j).length : Int) - 1) = ((fAt fs j).length : Int) - 1 := by rw [IntKind.wrap_i64]; omega
          have u2 : IntKind.i64.wrap (((fAt fs j).length : Int) - 1 - (k : Int)) = (q : Int) := by rw [IntKind.wrap_i64]; omega
          have u3 : (0 : Int) ≤ (q : Int) := by omega
          have u4 : (q : Int) < ((fAt fs j).length : Int) := by omega
          have k2 : (0 : Int) ≤ (k : Int) := by omega
          have k3 : (k : Int) < ((fAt fs j).length : Int) := by omega
          have hgj := HG.out j hlt
          have n1 : w4.heap.size ≠ g j := by omega
          have n2 : bf ≠ g j := by omega
          have n3 : b3 ≠ g j := by omega
          have HQ := Lib.hid hq
          have HHD := Lib.hid hd
          clear hc3 hd hq
          go_wp2_with fail
          go_region_held (fun w' => w'.cell? ⟨w4.heap.size, 1, none⟩ = some (.slice (some ⟨bf, 0, none⟩) fs.length c2) ∧ w'.cell? ⟨bf, j, none⟩ = some (.slice (some ⟨g j, 0, none⟩) (fAt fs j).length cg) ∧ w'.cell? ⟨b3, o3 + k, none⟩ = some (.int .i64 (iAt (fAt fs j) k)))
            (refine ⟨?_, ?_, ?_⟩ <;> first | (with_reducible assumption) | ((with_reducible refine Trk.k0 ?_) <;> with_reducible assumption) | ((with_reducible refine keep_set1 ?_ ?_) <;> with_reducible assumption) | ((with_reducible refine keep_set1d ?_ ?_) <;> with_reducible assumption) | ((with_reducible refine keep_set1 ?_ (Trk.k0 ?_)) <;> with_reducible assumption)) (fail)
          have HCN : Hid (Cors (wr.setCell ⟨g j, q, none⟩ (.int .i64 (iAt (fAt fs j) k))) g fs (bkF fs j (k + 1))) := Lib.hid (Cors.step HCO.out hlt hlt2 (fun i hi hne => HINJ.out i j hi hlt hne) HQ.out rfl)
          have HOT := Lib.hid (HON.out.set (g j) q (.int .i64 (iAt (fAt fs j) k)) ⟨j, hlt, rfl⟩)
          go_wp2_with fail
          go_roundw
          case rel => exact ⟨k + 1, by omega, by go_num, Lib.hid (by first | exact HOT.out | exact Only.dr HOT.out 1), Lib.hid (by exact HCN.out)⟩
          case measure => simp [intOf]; omega
        · have hkn : k = (fAt fs j).length := by omega
          subst hkn
          have HCN : Hid (Cors wr g fs (bkF fs (j + 1) 0)) := Lib.hid fun i hi p hp => by rw [← bkF_next hp]; exact HCO.out i hi p hp
          go_wp2_with fail
          go_roundw
          case rel => exact ⟨j + 1, by omega, by go_num, HON, HCN⟩
          case measure => simp [intOf]; omega
    · have hjn : j = fs.length := by omega
      subst hjn
      have hr1 := HR5.out
      have hR : OwnC wr (w.heap.size + 1) #[.slice none 0 0, .slice none 0 0] 33 := (HON.out.block _ (hnc _ (by omega))).trans HR5.out
      have hO : OwnC wr w4.heap.size #[.slice (some ⟨bs, 0, none⟩) ps.length c1, .slice (some ⟨bf, 0, none⟩) fs.length c2] 33 := (HON.out.block _ (hnc _ (by omega))).trans HO5.out
      have hap := HN5.out.apart
      have hlow := HN5.out.low
      have hFT := HN5.out.facets.turned (w' := wr) (fun i hi p hp => by show wr.cell? ⟨g i, p, none⟩ = some (.int .i64 (iAt (fAt fs i) ((fAt fs i).length - 1 - p))); rw [← bkF_all hi]; exact HCO.out i hi p hp) (fun i _ => HON.out.cell (hnc bf (by omega))) (fun i hi => HON.out.room _ _ (HN5.out.facets.room i hi))
      have hSP : OwnP wr w3.heap.size w4.heap.size (some ⟨bs, 0, none⟩) ps := ⟨.inr ⟨bs, rfl, hlow.1, hlow.2, HON.out.room _ _ HN5.out.room, HN5.out.spots.far (HON.out.far (fun c hc => by obtain ⟨i, hi, rfl⟩ := hc; have := hap.2 i hi; omega))⟩⟩
      have HNN : Hid (ONet wr w3.heap.size w4.heap.size (some ⟨bs, 0, none⟩) (some ⟨bf, 0, none⟩) ps (fs.map List.reverse)) := Lib.hid ⟨hSP, .inr ⟨bf, g, rfl, hFT, fun b e => by cases e; exact ⟨hap.1, fun i hi => hap.2 i (by rw [List.length_map] at hi; exact hi)⟩⟩⟩
      have HBW : Hid (Below w.heap.size w wr) := Lib.hid (HB5.out.trans (HON.out.below (fun c hc => by obtain ⟨i, hi, rfl⟩ := hc; have := HG.out i hi; omega)))
      have o0 := hO.cell 0
      have o1 := hO.cell 1
      have r0 := hR.cell 0
      have r1 := hR.cell 1
      have g0 := hR.free 0
      have g1 := hR.free 1
      simp at o0 o1 r0 r1
      have HRR := Lib.hid hR
      clear hr1 hR hO hFT hSP
      go_wp2_with fail
      have R := ((HRR.out.set 0 (.slice (some ⟨bs, 0, none⟩) ps.length c1)).set 1 (.slice (some ⟨bf, 0, none⟩) fs.length c2))
      have q0 := R.cell 0
      have q1 := R.cell 1
      simp at q0 q1
      refine bodyPost_ret (v := .tuple #[.agg #[.slice (some ⟨bs, 0, none⟩) ps.length c1, .slice (some ⟨bf, 0, none⟩) fs.length c2], .bool true]) (by simp [results, Try.results30, go_sem, *]) rfl ?_
      rw [HC1.out, HC2.out]
      have hfin : Far w3.heap.size w4.heap.size wr ((wr.setCell ⟨w.heap.size + 1, 0, none⟩ (.slice (some ⟨bs, 0, none⟩) ps.length c1)).setCell ⟨w.heap.size + 1, 1, none⟩ (.slice (some ⟨bf, 0, none⟩) fs.length c2)) := ((Far.refl _ _ _).set _ _ (by simp; omega)).set _ _ (by simp; omega)
      have hsz : wr.heap.size = w5.heap.size := HON.out.size
      refine ⟨⟨some ⟨bs, 0, none⟩, some ⟨bf, 0, none⟩, c1, c2, by rw [List.length_map]; rfl, ?_⟩, (HBW.out.setCell (by simp) _).setCell (by simp) _⟩
      have := HNN.out.far hfin
      simp only [World.size_setCell]
      exact this.wide (by omega) (by omega)
end Go.Proofs.Ytbmahankleijkaa

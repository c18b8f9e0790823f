/- impl.ClipLeft, ClipBox walked. -/
import Derived.Test.YtkpjhoiaegioeaaHuC
namespace Go.Fl
open Ieee Go.RowKit
/-- the corners of a box, the first one again at the end -/
def boxC (low high : Cx) : Nat → Cx
  | 0 => low
  | 1 => (high.1, low.2)
  | 2 => high
  | 3 => (low.1, high.2)
  | _ => low
/-- what is left behind k sides -/
def boxTo (xs : List Cx) (low high : Cx) : Nat → List Cx
  | 0 => xs
  | k + 1 => clipTo (boxTo xs low high k) (boxC low high k) (boxC low high (k + 1)) (boxTo xs low high k).length
theorem boxTo_len (xs : List Cx) (low high : Cx) : ∀ k, (boxTo xs low high k).length ≤ 2 ^ k * xs.length
  | 0 => by show xs.length ≤ 1 * xs.length; omega
  | k + 1 => by
    have h1 := boxTo_len xs low high k
    have h2 := clipTo_len (boxTo xs low high k) (boxC low high k) (boxC low high (k + 1)) (boxTo xs low high k).length
    show (clipTo _ _ _ _).length ≤ _
    rw [Nat.pow_succ, Nat.mul_right_comm]
    omega
theorem SlC.wide {w : World} {lo hi : Nat} {ao : Option Addr} {xs : List Cx} (h : SlC w lo hi ao xs) {H : Nat} (hh : hi ≤ H) : SlC w 0 H ao xs := fun hp => by
  obtain ⟨b, e, h1, h2, h3⟩ := h hp
  exact ⟨b, e, Nat.zero_le _, by omega, h3⟩
theorem ord_lt_of {x y : Nat} (hx : isN .f32 x = true) (hy : isN .f32 y = true) (h : V .f32 x < V .f32 y) : (FloatKind.f32.format.order x y == some .lt) = true := by
  rw [ord_V hx hy, Int.compare_eq_lt.2 h]; rfl
end Go.Fl
namespace Go.Proofs.Ytkpjhoiaegioeaa
open Go.RowKit Go.Fl

set_option maxHeartbeats 2000000 in
theorem clipLeft {xs : List Cx} {a b : Cx} (lo hi : Nat) (ao : Option Addr) (c n : Nat) (hn : xs.length = n) (hn1 : 3 ≤ n) (hn64 : n ≤ 64) (hall : ∀ z, z ∈ xs → nN z) (ha : nN a) (hb : nN b) (hlt : V .f32 a.1 ≠ V .f32 b.1) (hok : ClipOk xs a b) (w : World) (hs : SlC w lo hi ao xs) (htop : hi ≤ w.heap.size) :
    Calls Try.prog 10 #[.slice ao n c, cV a, cV b] w fun x w' => (∃ g cap m, x = .returned (.tuple #[.slice (some ⟨g, 0, none⟩) m cap, .bool true]) ∧ m = (clipTo xs a b n).length ∧ w.heap.size ≤ g ∧ OwnC1 w' g (clipTo xs a b n)) ∧ Below w.heap.size w w' := by
  have hil := isLoop lo hi ao c xs (by omega) w hs
  have hol : okLoop xs = true := by unfold okLoop; rw [all_ok hall]; simp; omega
  rw [hol, hn] at hil
  have HIL := Lib.hid hil
  have HS := Lib.hid hs
  have HN := Lib.hid hn
  have HOK := Lib.hid hok
  have HA := Lib.hid ha
  have HB := Lib.hid hb
  have HO := Lib.hid (show (FloatKind.f32.format.order a.1 b.1 == some .eq) = false by
    rw [ord_V ha.1 hb.1]
    cases h : compare (V .f32 a.1) (V .f32 b.1)
    · rfl
    · exact absurd (Int.compare_eq_eq.1 h) hlt
    · rfl)
  have HAB := Lib.hid (show [a, b].all okPt = true by simp [ha.ok, hb.ok])
  clear hil hol hs hn hok ha hb hlt hall HA HB
  have HOK2 := Lib.hid (fun W (hW : Below w.heap.size w W) => clip lo hi ao c n HN.out (by omega) (by omega) HOK.out W (HS.out.far (Far.below hW htop)) (Nat.le_trans htop hW.size))
  obtain ⟨a1, a2⟩ := a
  obtain ⟨b1, b2⟩ := b
  have ho : (FloatKind.f32.format.order a1 b1 == some .eq) = false := HO.out
  clear HO
  show Calls Try.prog 10 #[.slice ao n c, .complex .f32 a1 a2, .complex .f32 b1 b2] w _
  go_enter Try.func10, Try.ntmps10
  go_wp2_with fail
  refine HIL.out.mono ?_
  rintro e w1 ⟨rfl, q1, rfl⟩
  go_wp2_with fail
  have hsl : SlC ((w.alloc (.cells #[.complex .f32 a1 a2, .complex .f32 b1 b2] 26)).drewN q1) 0 (w.heap.size + 1) (some ⟨w.heap.size, 0, none⟩) [(a1, a2), (b1, b2)] := fun _ => ⟨w.heap.size, rfl, Nat.zero_le _, Nat.lt_succ_self _, fun i hi => by
    have := (OwnC.new (w := w) (cs := #[.complex .f32 a1 a2, .complex .f32 b1 b2]) (T := 26) rfl).cell i
    show (w.alloc _).cell? _ = _
    rw [this]
    match i, hi with
    | 0, _ => rfl
    | 1, _ => rfl⟩
  have hap := arePoints 0 (w.heap.size + 1) (some ⟨w.heap.size, 0, none⟩) 2 [(a1, a2), (b1, b2)] (by simp) _ hsl
  rw [HAB.out] at hap
  refine hap.mono ?_
  rintro e w2 ⟨rfl, q2, rfl⟩
  clear hap hsl
  go_wp2_with fail
  refine (HOK2.out _ (by first | exact below_dr (below_dr (Below.alloc (Below.refl _ _) (Nat.le_refl _) _) _) _ | exact below_dr (Below.alloc (Below.refl _ _) (Nat.le_refl _) _) _)).mono ?_
  rintro e w3 ⟨⟨g, cap, m, rfl, hm, hg, ho⟩, hbl⟩
  have hb3 : Below w.heap.size w w3 := Below.trans (by first | exact below_dr (below_dr (Below.alloc (Below.refl _ _) (Nat.le_refl _) _) _) _ | exact below_dr (Below.alloc (Below.refl _ _) (Nat.le_refl _) _) _) (hbl.mono (by simp))
  have HB3 := Lib.hid hb3
  have HO3 := Lib.hid ho
  have HM3 := Lib.hid hm
  have hg3 : w.heap.size ≤ g := by simp at hg; omega
  clear hb3 ho hm hbl hg
  go_wp2_with fail
  go_ret2
  exact ⟨⟨g, cap, m, rfl, HM3.out, hg3, HO3.out⟩, HB3.out⟩

set_option maxHeartbeats 4000000 in
set_option maxRecDepth 100000 in
theorem clipBox {xs : List Cx} {a b : Cx} (lo hi : Nat) (ao : Option Addr) (c n : Nat) (hn : xs.length = n) (hn1 : 3 ≤ n) (hn64 : n ≤ 60) (hall : ∀ z, z ∈ xs → nN z) (ha : nN a) (hb : nN b) (hlt1 : V .f32 a.1 < V .f32 b.1) (hlt2 : V .f32 a.2 < V .f32 b.2)
    (hok : ∀ k, k < 4 → 3 ≤ (boxTo xs a b k).length → ClipOk (boxTo xs a b k) (boxC a b k) (boxC a b (k + 1))) (w : World) (hs : SlC w lo hi ao xs) (htop : hi ≤ w.heap.size) :
    Calls Try.prog 9 #[.slice ao n c, cV a, cV b] w fun x w' => (∃ ao' cap k, x = .returned (.tuple #[.slice ao' (boxTo xs a b k).length cap, .bool true]) ∧ ((boxTo xs a b k).length < 3 ∨ k = 4) ∧ k ≤ 4 ∧ SlC w' 0 w'.heap.size ao' (boxTo xs a b k)) ∧ Below w.heap.size w w' := by
  have hil := isLoop lo hi ao c xs (by omega) w hs
  have hol : okLoop xs = true := by unfold okLoop; rw [all_ok hall]; simp; omega
  rw [hol, hn] at hil
  have HIL := Lib.hid hil
  have HS := Lib.hid (hs.wide htop)
  have HN := Lib.hid hn
  have HOK := Lib.hid hok
  have HO1 := Lib.hid (ord_lt_of ha.1 hb.1 hlt1)
  have HO2 := Lib.hid (ord_lt_of ha.2 hb.2 hlt2)
  have HAB := Lib.hid (show [a, b].all okPt = true by simp [ha.ok, hb.ok])
  have HLEN := Lib.hid (fun k (hk : k ≤ 4) => (show (boxTo xs a b k).length ≤ 1000 from by
    have h1 := boxTo_len xs a b k
    have h2 : 2 ^ k ≤ 2 ^ 4 := Nat.pow_le_pow_right (by decide) hk
    have h3 := Nat.mul_le_mul h2 (show xs.length ≤ 60 by omega)
    omega))
  clear hil hol hs hn hok ha hb hlt1 hlt2 hall
  obtain ⟨F, hF⟩ : ∃ F, F = boxTo xs a b := ⟨_, rfl⟩
  obtain ⟨C, hC⟩ : ∃ C, C = boxC a b := ⟨_, rfl⟩
  have HF0 := Lib.hid (show F 0 = xs by rw [hF]; rfl)
  have HFS := Lib.hid (show ∀ k, F (k + 1) = clipTo (F k) (C k) (C (k + 1)) (F k).length by intro k; rw [hF, hC]; rfl)
  rw [← hF, ← hC] at HOK
  rw [← hF] at HLEN ⊢
  have HC := Lib.hid hC
  clear hF hC
  obtain ⟨a1, a2⟩ := a
  obtain ⟨b1, b2⟩ := b
  have o1 : (FloatKind.f32.format.order a1 b1 == some .lt) = true := HO1.out
  have o2 : (FloatKind.f32.format.order a2 b2 == some .lt) = true := HO2.out
  clear HO1 HO2
  show Calls Try.prog 9 #[.slice ao n c, .complex .f32 a1 a2, .complex .f32 b1 b2] w _
  go_enter Try.func9, Try.ntmps9
  go_wp2_with fail
  refine HIL.out.mono ?_
  rintro e w1 ⟨rfl, q1, rfl⟩
  go_wp2_with fail
  have hsl : SlC ((w.alloc (.cells #[.complex .f32 a1 a2, .complex .f32 b1 b2] 26)).drewN q1) 0 (w.heap.size + 1) (some ⟨w.heap.size, 0, none⟩) [(a1, a2), (b1, b2)] := fun _ => ⟨w.heap.size, rfl, Nat.zero_le _, Nat.lt_succ_self _, fun i hi => by
    have := (OwnC.new (w := w) (cs := #[.complex .f32 a1 a2, .complex .f32 b1 b2]) (T := 26) rfl).cell i
    show (w.alloc _).cell? _ = _
    rw [this]
    match i, hi with
    | 0, _ => rfl
    | 1, _ => rfl⟩
  have hap := arePoints 0 (w.heap.size + 1) (some ⟨w.heap.size, 0, none⟩) 2 [(a1, a2), (b1, b2)] (by simp) _ hsl
  rw [HAB.out] at hap
  refine hap.mono ?_
  rintro e w2 ⟨rfl, q2, rfl⟩
  clear hap hsl
  go_wp2_with fail
  obtain ⟨wB, hwB⟩ : ∃ x : World, x = (((w.alloc (.cells #[.complex .f32 a1 a2, .complex .f32 b1 b2] 26)).alloc (.cells #[.complex .f32 a1 a2, .complex .f32 b1 a2, .complex .f32 b1 b2, .complex .f32 a1 b2, .complex .f32 a1 a2] 57)).drewN (q1 + q2)) := ⟨_, rfl⟩
  obtain ⟨P, hP⟩ : ∃ P, P = w.heap.size + 1 := ⟨_, rfl⟩
  rw [← hwB, ← hP]
  have HPC := Lib.hid (show ∀ k, k ≤ 4 → wB.cell? ⟨P, k, none⟩ = some (cV (C k)) from fun k hk => by
    have h0 := (OwnC.new (w := w.alloc (.cells #[.complex .f32 a1 a2, .complex .f32 b1 b2] 26)) (b := P) (cs := #[.complex .f32 a1 a2, .complex .f32 b1 a2, .complex .f32 b1 b2, .complex .f32 a1 b2, .complex .f32 a1 a2]) (T := 57) (by rw [hP]; simp)).cell k
    rw [hwB, HC.out]
    show (World.alloc _ _).cell? _ = _
    rw [h0]
    match k, hk with
    | 0, _ => rfl
    | 1, _ => rfl
    | 2, _ => rfl
    | 3, _ => rfl
    | 4, _ => rfl)
  have HBB := Lib.hid (show Below w.heap.size w wB by rw [hwB]; exact below_dr ((Below.alloc (Below.refl _ _) (Nat.le_refl _) _).alloc (by simp) _) _)
  have hPB : P < wB.heap.size := by rw [hwB, hP]; show _ < (World.alloc _ _).heap.size; simp
  have HS0 := Lib.hid (show SlC wB 0 wB.heap.size ao xs from (HS.out.far (Far.below HBB.out (Nat.le_refl _))).wide HBB.out.size)
  clear hwB hP HS HC o1 o2 HIL
  go_loopw [0, 52] (fun v i wr => ∃ (k m cap' : Nat) (ao' : Option Addr), k ≤ 4 ∧ i = .int .i64 k ∧ v = .slice ao' m cap' ∧ Hid (m = (F k).length) ∧ 3 ≤ m ∧ Hid (SlC wr 0 wr.heap.size ao' (F k)) ∧ Hid (Below wB.heap.size wB wr)) (fun _ i _ => 4 - (intOf i).toNat)
  case atStart => exact ⟨0, n, c, ao, by omega, rfl, rfl, Lib.hid (by rw [HF0.out, HN.out]), hn1, Lib.hid (by rw [HF0.out]; exact HS0.out), Lib.hid (Below.refl _ _)⟩
  case round =>
    clear HS0
    obtain ⟨k, m, cap', ao', hk, rfl, rfl, HM, hm3, HS, HB⟩ := hrel
    by_cases hlt : k < 4
    · have c1 := (HB.out.cell (p := ⟨P, k, none⟩) hPB).trans (HPC.out k (by omega))
      obtain ⟨K, hK⟩ : ∃ K, K = k + 1 := ⟨_, rfl⟩
      have c2 := (HB.out.cell (p := ⟨P, K, none⟩) hPB).trans (HPC.out K (by omega))
      have k0 : (0 : Int) ≤ (k : Int) := by omega
      have k1 : (k : Int) < 4 := by omega
      have k2 : (k : Int) < 5 := by omega
      have k3 : (K : Int) < 5 := by omega
      have k4 : (0 : Int) ≤ (K : Int) := by omega
      have w1 : IntKind.i64.wrap ((k : Int) + 1) = (K : Int) := by rw [IntKind.wrap_i64]; omega
      have HCL := Lib.hid (clip 0 wr.heap.size ao' cap' m HM.out.symm (by omega) (by rw [HM.out]; exact HLEN.out k hk) (HOK.out k hlt (by rw [← HM.out]; exact hm3)) wr.drew (HS.out.far ((Far.refl _ _ _).drewN 1)) (Nat.le_refl _))
      have hFS := HFS.out k
      rw [← HM.out, ← hK] at hFS
      rw [← hK] at HCL
      have HFK := Lib.hid hFS
      obtain ⟨p1, hp1⟩ : ∃ p, p = C k := ⟨_, rfl⟩
      obtain ⟨p2, hp2⟩ : ∃ p, p = C K := ⟨_, rfl⟩
      rw [← hp1] at c1 HCL HFK
      rw [← hp2] at c2 HCL HFK
      obtain ⟨L, hL⟩ : ∃ L, L = clipTo (F k) p1 p2 m := ⟨_, rfl⟩
      rw [← hL] at HCL HFK
      have hzb := HB.out.size
      have HK := Lib.hid hK
      clear hp1 hp2 hL hFS hK
      go_wp2_with fail
      go_region_held3 (fun w' => w'.cell? ⟨P, k, none⟩ = some (cV p1) ∧ w'.cell? ⟨P, K, none⟩ = some (cV p2)) (first | exact ⟨c1, c2⟩ | exact ⟨keep_cell HB5.out c1, keep_cell HB5.out c2⟩) (first | (go_at_call 40; refine HCL.out.mono ?_; rintro e w5 ⟨⟨g, cap5, m5, rfl, hm5, hg5, ho5⟩, hb5⟩; have HB5 := Lib.hid (show Below wr.heap.size wr w5 from Below.trans (below_dr (Below.refl _ wr) 1) hb5); have HM5 := Lib.hid hm5; have HO5 := Lib.hid ho5; have hg6 : wr.heap.size ≤ g := hg5; clear hb5 hm5 ho5 hg5))
      have e5 : F (k + 1) = L := by rw [← HK.out]; exact HFK.out
      have HBW := Lib.hid (HB.out.trans (HB5.out.mono hzb))
      have hzw5 := HB5.out.size
      by_cases h3 : m5 < 3
      · have h3' : (m5 : Int) < 3 := by omega
        go_wp2_with fail
        go_ret2
        refine ⟨⟨_, cap5, k + 1, by rw [e5, ← HM5.out] <;> rfl, .inl (by rw [e5, ← HM5.out]; exact h3), by omega, ?_⟩, HBB.out.trans (HBW.out.mono HBB.out.size)⟩
        rw [e5]
        exact HO5.out.sl (Nat.zero_le _) HO5.out.1.lt
      · have h3' : ¬ (m5 : Int) < 3 := by omega
        go_wp2_with fail
        go_roundw
        case rel => exact ⟨K, m5, cap5, _, by have := HK.out; omega, by first | rfl | go_num, rfl, Lib.hid (by rw [HFK.out, HM5.out]), by omega, Lib.hid (by rw [HFK.out]; exact HO5.out.sl (Nat.zero_le _) HO5.out.1.lt), HBW⟩
        case measure => have := HK.out; simp [intOf]; omega
    · have hk4 : k = 4 := by omega
      subst hk4
      go_wp2_with fail
      go_ret2
      exact ⟨⟨ao', cap', 4, HM.out ▸ rfl, .inr rfl, Nat.le_refl _, HS.out⟩, HBB.out.trans (HB.out.mono HBB.out.size)⟩
end Go.Proofs.Ytkpjhoiaegioeaa

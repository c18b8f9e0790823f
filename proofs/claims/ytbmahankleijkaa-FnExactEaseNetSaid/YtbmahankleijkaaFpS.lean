/- Contracts: the middles of facets, the reference's. -/
import Derived.Test.YtbmahankleijkaaFpB
import Derived.StillTailTactics
namespace Go.Proofs.Ytbmahankleijkaa
open Go.RowKit Go.Fl

set_option maxHeartbeats 2000000 in
set_option maxRecDepth 100000 in
theorem l06Middle (lo hi pb : Nat) (sa fa : Option Addr) (sc fc j : Nat) (ps : List Sp) (fs : List (List Int)) (hp : ps.length ≤ 1048576) (hj : j < fs.length) (hn : fs.length ≤ 1048576) (hsh : (fAt fs j).length ≤ 1048576) (hin : InN ps.length (fAt fs j)) (w : World)
    (p0 : w.cell? ⟨pb, 0, none⟩ = some (.slice sa ps.length sc)) (p1 : w.cell? ⟨pb, 1, none⟩ = some (.slice fa fs.length fc)) (hs : NetAt w lo hi sa fa ps fs) (hh : hi ≤ w.heap.size) :
    Calls Try.prog 111 #[.pointer (some ⟨pb, 0, none⟩), .int .i64 (j : Int)] w fun e w' => (∃ a b c, e = .returned (.agg #[.float .f32 a, .float .f32 b, .float .f32 c]) ∧ IsSp a b c (mid ps (fAt fs j))) ∧ Below w.heap.size w w' := by
  have HS := Lib.hid hs
  have HI := Lib.hid hin
  obtain ⟨bf, off, rfl, f1, f2, hcf⟩ := hs.facets (by omega)
  obtain ⟨ai, ci, d0, s1⟩ := hcf j hj
  have S1 := Lib.hid s1
  have P0 := Lib.hid p0
  have P1 := Lib.hid p1
  have HB0 : Below w.heap.size w (w.alloc (.cells #[.float .f32 0, .float .f32 0, .float .f32 0] 79)) := by (repeat (first | exact Below.refl _ _ | assumption | refine below_dr ?_ _ | refine Below.alloc ?_ (by first | omega | (simp; done) | (simp; omega)) _ | refine Below.setCell ?_ (by first | omega | (simp; done) | (simp; omega)) _ | refine Below.trans ?_ (Below.mono (by assumption) (by first | omega | (simp; done) | (simp; omega)))))
  have d1 := keep_cell HB0 d0
  have q1 := keep_cell HB0 p1
  have j0 : (0 : Int) ≤ (j : Int) := by omega
  have j1 : (j : Int) < (fs.length : Int) := by omega
  clear hs hin hcf s1 d0 p0 p1 HB0
  generalize hf : fAt fs j = f at *
  have HQL := Lib.hid (qsOf_len ps f)
  have HFF := Lib.hid hf
  clear hf
  go_enter Try.func111, Try.ntmps111
  go_wp2_with fail
  go_loopw [7] (fun i wr => ∃ (k x y z : Nat), k ≤ f.length ∧ i = .int .i64 k ∧ Hid (Below w.heap.size w wr) ∧ Hid (OwnC wr (w.heap.size + 1) #[.float .f32 x, .float .f32 y, .float .f32 z] 79) ∧ Hid (OwnC wr w.heap.size #[.float .f32 0, .float .f32 0, .float .f32 0] 79) ∧ Hid (IsSp x y z (sumQ (qsOf ps f) k))) (fun i _ => f.length - (intOf i).toNat)
  case atStart =>
    refine ⟨0, 0, 0, 0, by omega, rfl, Lib.hid (by (repeat (first | exact Below.refl _ _ | assumption | refine below_dr ?_ _ | refine Below.alloc ?_ (by first | omega | (simp; done) | (simp; omega)) _ | refine Below.setCell ?_ (by first | omega | (simp; done) | (simp; omega)) _ | refine Below.trans ?_ (Below.mono (by assumption) (by first | omega | (simp; done) | (simp; omega)))))), Lib.hid (OwnC.new (by simp)), Lib.hid ((OwnC.new rfl).alloc _), Lib.hid ?_⟩
    show (can .f32 0, can .f32 0, can .f32 0) = _
    rw [can_l5]; rfl
  case round =>
    clear d1 q1
    obtain ⟨k, x, y, z, hk, rfl, HW, HO, HZ, HQ⟩ := hrel
    have o0 := HO.out.cell 0
    have o1 := HO.out.cell 1
    have o2 := HO.out.cell 2
    simp at o0 o1 o2
    by_cases hlt : k < f.length
    · have hsi := S1.out.far (Far.below HW.out hh)
      obtain ⟨b3, o3, rfl, _, _, hc3⟩ := hsi (by omega)
      have e1 := hc3 k hlt
      obtain ⟨i0, i1⟩ := HI.out k hlt
      obtain ⟨v, hv⟩ := Int.eq_ofNat_of_zero_le i0
      rw [hv] at e1 i1
      have hvn : v < ps.length := by omega
      have p0 := keep_cell HW.out P0.out
      obtain ⟨b4, o4, hsa, _, _, hc4⟩ := HS.out.spots.far (Far.below HW.out hh) (by omega)
      subst hsa
      obtain ⟨x', y', z', c1, c2, c3, g1, g2, g3⟩ := hc4 v hvn
      have HP := Lib.hid (IsSp.of g1 g2 g3)
      have HQE : Hid (pAt (qsOf ps f) k = pAt ps v) := Lib.hid (by rw [qsOf_at hlt, hv]; rfl)
      have hz := HW.out.size
      have hlo := HO.out.lt
      have hlz := HZ.out.lt
      have k0 : (0 : Int) ≤ (k : Int) := by omega
      have k1 : (k : Int) < (f.length : Int) := by omega
      have v0 : (0 : Int) ≤ (v : Int) := by omega
      have v1 : (v : Int) < (ps.length : Int) := by omega
      clear hsi hc3 hc4 g1 g2 g3 hv i0
      go_wp2_with fail
      go_still_tail 11, (by kernel_rfl)
      change wpList _ _ _ _ _ wr.drew
      go_wp2_with (go_at_call 83; refine (addS x y z x' y' z' _ _ HQ.out HP.out wr.drew).mono ?_; rintro e w3 ⟨⟨a, b, c, rfl, hab⟩, hb3⟩; have HAB := Lib.hid hab; have HO3 := Lib.hid ((HO.out.drewN 1).below hb3 hlo); have HZ3 := Lib.hid ((HZ.out.drewN 1).below hb3 hlz); have e0 := HO3.out.cell 0; have e1' := HO3.out.cell 1; have e2 := HO3.out.cell 2; simp at e0 e1' e2; have g0 := HO3.out.free 0; have g1 := HO3.out.free 1; have g2 := HO3.out.free 2; have HW3 := Lib.hid (HW.out.drew.trans (hb3.mono hz)); clear hab hb3)
      have HO4 : Hid (OwnC (((w3.setCell ⟨w.heap.size + 1, 0, none⟩ (.float .f32 a)).setCell ⟨w.heap.size + 1, 1, none⟩ (.float .f32 b)).setCell ⟨w.heap.size + 1, 2, none⟩ (.float .f32 c)) (w.heap.size + 1) #[.float .f32 a, .float .f32 b, .float .f32 c] 79) :=
        (((HO3.out.set 0 _).set 1 _).set 2 _).congr rfl
      have HZ4 : Hid (OwnC (((w3.setCell ⟨w.heap.size + 1, 0, none⟩ (.float .f32 a)).setCell ⟨w.heap.size + 1, 1, none⟩ (.float .f32 b)).setCell ⟨w.heap.size + 1, 2, none⟩ (.float .f32 c)) w.heap.size #[.float .f32 0, .float .f32 0, .float .f32 0] 79) :=
        ((HZ3.out.other _ _ (by simp)).other _ _ (by simp)).other _ _ (by simp)
      have HQ4 : Hid (IsSp a b c (sumQ (qsOf ps f) (k + 1))) := by
        show IsSp a b c (spAdd (sumQ (qsOf ps f) k) (pAt (qsOf ps f) k))
        rw [HQE.out]; exact HAB.out
      go_roundw
      case rel => exact ⟨k + 1, a, b, c, by omega, by go_num, ((HW3.out.setCell (by simp) _).setCell (by simp) _).setCell (by simp) _, HO4, HZ4, HQ4⟩
      case measure => simp [intOf]; omega
    · have hkn : k = f.length := by omega
      subst hkn
      have z0 := HZ.out.cell 0
      have z1 := HZ.out.cell 1
      have z2 := HZ.out.cell 2
      have i0 := HZ.out.free 0
      have i1 := HZ.out.free 1
      have i2 := HZ.out.free 2
      simp at z0 z1 z2
      have zlt := HZ.out.lt
      go_wp2_with (go_at_call 84; refine (overS x y z _ _ _ HQ.out (F32.mk _) _).mono ?_; rintro e w3 ⟨⟨a, b, c, rfl, hab⟩, hb3⟩; have HAB := Lib.hid hab; have HZ3 := Lib.hid (HZ.out.below hb3 zlt); have e0 := HZ3.out.cell 0; have e1 := HZ3.out.cell 1; have e2 := HZ3.out.cell 2; simp at e0 e1 e2; have g0 := HZ3.out.free 0; have g1 := HZ3.out.free 1; have g2 := HZ3.out.free 2; have HW3 := Lib.hid (HW.out.trans (hb3.mono HW.out.size)); clear hab hb3)
      have HZ4 : OwnC (((w3.setCell ⟨w.heap.size, 0, none⟩ (.float .f32 a)).setCell ⟨w.heap.size, 1, none⟩ (.float .f32 b)).setCell ⟨w.heap.size, 2, none⟩ (.float .f32 c)) w.heap.size #[.float .f32 a, .float .f32 b, .float .f32 c] 79 :=
        (((HZ3.out.set 0 _).set 1 _).set 2 _).congr rfl
      have r0 := HZ4.cell 0
      have r1 := HZ4.cell 1
      have r2 := HZ4.cell 2
      simp at r0 r1 r2
      refine bodyPost_ret (v := .agg #[.float .f32 a, .float .f32 b, .float .f32 c]) (by simp [results, Try.results111, go_sem, *]) rfl ⟨⟨a, b, c, rfl, ?_⟩, ?_⟩
      · show IsSp a b c (spDiv (sumQ (qsOf ps f) (qsOf ps f).length) (cntF (qsOf ps f).length))
        rw [HQL.out]; exact HAB.out
      · exact ((HW3.out.setCell (by simp) _).setCell (by simp) _).setCell (by simp) _
end Go.Proofs.Ytbmahankleijkaa

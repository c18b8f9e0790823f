/- Contracts: the middles of facets, the program's and the reference's. -/
import Derived.Test.YtbmahankleijkaaMid
namespace Go.Fl
/-- all corners are of n spots -/
def InN (n : Nat) (f : List Int) : Prop := ∀ k, k < f.length → 0 ≤ iAt f k ∧ iAt f k < n
theorem OkF.inN {n : Nat} {f : List Int} (h : OkF n f) : InN n f := fun k hk => by
  have := (h.2.2 k hk).1
  simp only [inB, Bool.and_eq_true, decide_eq_true_eq] at this
  omega
theorem take_snoc {qs : List Sp} {k : Nat} (h : k < qs.length) : qs.take (k + 1) = qs.take k ++ [pAt qs k] := by
  rw [List.take_succ_eq_append_getElem h]; simp [pAt, h]
theorem ORow.clen {w : World} {e : TypeId} {size b cap n : Nat} {cs : List Value} (h : ORow w e size b cap n cs) : cs.length = n * size := by
  obtain ⟨_, _, _, _, h4⟩ := h.block
  exact h4
end Go.Fl
namespace Go.Proofs.Ytbmahankleijkaa
open Go.RowKit Go.Fl
theorem infoSpot' : (Try.prog.info? 79).map (fun i => (i.zero, i.size, i.bytes)) = some (some (.agg #[.float .f32 0, .float .f32 0, .float .f32 0]), 3, 12) := by kernel_rfl

set_option maxHeartbeats 2000000 in
set_option maxRecDepth 100000 in
theorem facetPoint (lo hi : Nat) (sa fa : Option Addr) (sc fc j : Nat) (ps : List Sp) (fs : List (List Int)) (hp : ps.length ≤ 1048576) (hj : j < fs.length) (hn : fs.length ≤ 1048576) (hsh : (fAt fs j).length ≤ 1048576) (hin : InN ps.length (fAt fs j)) (w : World) (hs : NetAt w lo hi sa fa ps fs) (hh : hi ≤ w.heap.size) :
    Calls Try.prog 113 #[.agg #[.slice sa ps.length sc, .slice fa fs.length fc], .int .i64 (j : Int)] w fun e w' => (∃ a b c, e = .returned (.agg #[.float .f32 a, .float .f32 b, .float .f32 c]) ∧ IsSp a b c (mid ps (fAt fs j))) ∧ Below w.heap.size w w' := by
  have HS := Lib.hid hs
  have HI := Lib.hid hin
  obtain ⟨bf, off, rfl, f1, f2, hcf⟩ := hs.facets (by omega)
  obtain ⟨ai, ci, d0, s1⟩ := hcf j hj
  have S1 := Lib.hid s1
  have hz : bf < w.heap.size := by omega
  have d1 : ((w.alloc (.cells #[.slice sa ps.length sc, .slice (some ⟨bf, off, none⟩) fs.length fc] 33)).alloc (.cells #[.float .f32 0, .float .f32 0, .float .f32 0] 79)).cell? ⟨bf, off + j, none⟩ = some (.slice ai (fAt fs j).length ci) :=
    keep_cell (by (repeat (first | exact Below.refl _ _ | assumption | refine below_dr ?_ _ | refine Below.alloc ?_ (by first | omega | (simp; done) | (simp; omega)) _ | refine Below.setCell ?_ (by first | omega | (simp; done) | (simp; omega)) _ | refine Below.trans ?_ (Below.mono (by assumption) (by first | omega | (simp; done) | (simp; omega)))))) d0
  have d2 : (((w.alloc (.cells #[.slice sa ps.length sc, .slice (some ⟨bf, off, none⟩) fs.length fc] 33)).alloc (.cells #[.float .f32 0, .float .f32 0, .float .f32 0] 79)).alloc (.cells #[] 79)).cell? ⟨bf, off + j, none⟩ = some (.slice ai (fAt fs j).length ci) :=
    keep_cell (by (repeat (first | exact Below.refl _ _ | assumption | refine below_dr ?_ _ | refine Below.alloc ?_ (by first | omega | (simp; done) | (simp; omega)) _ | refine Below.setCell ?_ (by first | omega | (simp; done) | (simp; omega)) _ | refine Below.trans ?_ (Below.mono (by assumption) (by first | omega | (simp; done) | (simp; omega)))))) d0
  have j0 : (0 : Int) ≤ (j : Int) := by omega
  have j1 : (j : Int) < (fs.length : Int) := by omega
  clear hs hin hcf s1 d0
  generalize hf : fAt fs j = f at *
  have HFE := Lib.hid hf
  clear hf
  have HQL := Lib.hid (qsOf_len ps f)
  go_enter Try.func113, Try.ntmps113
  go_wp2_with fail
  go_loopw [5, 16] (fun out i wr => ∃ (k b cap : Nat) (cs : List Value), k ≤ f.length ∧ i = .int .i64 k ∧ out = .slice (some ⟨b, 0, none⟩) k cap ∧ Hid (ORow wr 79 3 b cap k cs) ∧ Hid (SpL cs ((qsOf ps f).take k)) ∧ w.heap.size + 1 < b ∧ Hid (Below w.heap.size w wr) ∧ Hid (OwnC wr w.heap.size #[.slice sa ps.length sc, .slice (some ⟨bf, off, none⟩) fs.length fc] 33) ∧ Hid (OwnC wr (w.heap.size + 1) #[.float .f32 0, .float .f32 0, .float .f32 0] 79)) (fun _ i _ => f.length - (intOf i).toNat)
  case atStart =>
    refine ⟨0, _, _, [], by omega, rfl, rfl, ?_, Lib.hid (by simpa using SpL.nil), by omega, Lib.hid (by (repeat (first | exact Below.refl _ _ | assumption | refine below_dr ?_ _ | refine Below.alloc ?_ (by first | omega | (simp; done) | (simp; omega)) _ | refine Below.setCell ?_ (by first | omega | (simp; done) | (simp; omega)) _ | refine Below.trans ?_ (Below.mono (by assumption) (by first | omega | (simp; done) | (simp; omega)))))), Lib.hid (((OwnC.new rfl).alloc _).alloc _), Lib.hid ((OwnC.new (by simp)).alloc _)⟩
    have := ORow.new ((w.alloc (.cells #[.slice sa ps.length sc, .slice (some ⟨bf, off, none⟩) fs.length fc] 33)).alloc (.cells #[.float .f32 0, .float .f32 0, .float .f32 0] 79)) 79 3
    simp only [World.size_alloc] at this
    exact this
  case round =>
    clear d1 d2
    obtain ⟨k, b, cap, cs, hk, rfl, rfl, HR, HSP, hbb, HW, HA, HZ⟩ := hrel
    have a0 := HA.out.cell 0
    simp at a0
    by_cases hlt : k < f.length
    · have hsi := S1.out.far (Far.below HW.out hh)
      obtain ⟨b3, o3, rfl, _, _, hc3⟩ := hsi (by omega)
      have e1 := hc3 k hlt
      obtain ⟨i0, i1⟩ := HI.out k hlt
      obtain ⟨v, hv⟩ := Int.eq_ofNat_of_zero_le i0
      rw [hv] at e1 i1
      have hvn : v < ps.length := by omega
      obtain ⟨b4, o4, hsa, _, _, hc4⟩ := HS.out.spots.far (Far.below HW.out hh) (by omega)
      subst hsa
      obtain ⟨x, y, z, c1, c2, c3, g1, g2, g3⟩ := hc4 v hvn
      have HQ := Lib.hid (IsSp.of g1 g2 g3)
      have HQE : Hid (pAt (qsOf ps f) k = pAt ps v) := Lib.hid (by rw [qsOf_at hlt, hv]; rfl)
      have k0 : (0 : Int) ≤ (k : Int) := by omega
      have k1 : (k : Int) < (f.length : Int) := by omega
      have v0 : (0 : Int) ≤ (v : Int) := by omega
      have v1 : (v : Int) < (ps.length : Int) := by omega
      clear hsi hc3 hc4 g1 g2 g3 hv i0
      go_wp2_with (at_builtin; refine wpList_app rfl _ _ _ rfl 79 (.agg #[.float .f32 0, .float .f32 0, .float .f32 0]) 3 12 Try.underlying30 infoSpot' rfl (by decide) _ #[.float .f32 x, .float .f32 y, .float .f32 z] 79 rfl (by simp [Value.oneCell']) b cap _ _ rfl rfl HR.out (by omega) (by decide) ?_; intro b5 cap5 w5 hr5 hg5 hgr5)
      have hz5 := HW.out.size
      have hla := HA.out.lt
      have hlz := HZ.out.lt
      go_roundw
      case rel =>
        refine ⟨k + 1, b5, cap5, _, by omega, by go_num, rfl, Lib.hid hr5, ?_, by omega, Lib.hid (HW.out.trans (hgr5.below (by omega) hz5)), Lib.hid ((hgr5.block _ hla (by omega)).trans HA.out), Lib.hid ((hgr5.block _ hlz (by omega)).trans HZ.out)⟩
        show SpL _ _
        rw [take_snoc (by rw [HQL.out]; exact hlt), HQE.out]
        refine HSP.out.snoc ?_ HQ.out
        rw [HR.out.clen, List.length_take, HQL.out, Nat.min_eq_left hk]
      case measure => simp [intOf]; omega
    · have hkn : k = f.length := by omega
      subst hkn
      have hsp := HSP.out
      rw [List.take_of_length_le (by rw [HQL.out]; exact Nat.le_refl _)] at hsp
      have hrow := HR.out
      rw [← HQL.out] at hrow
      have hsl := hrow.spots hsp
      have hrl := HR.out.lt
      have HM := Lib.hid (meanOf b (b + 1) (some ⟨b, 0, none⟩) cap (qsOf ps f) (by rw [HQL.out]; exact hsh) wr hsl (by omega))
      rw [HQL.out] at HM
      have zlt := HZ.out.lt
      clear hsp hrow hsl
      go_wp2_with (go_at_call 92; refine HM.out.mono ?_; unfold spV; rintro e w3 ⟨⟨a, b, c, rfl, hab⟩, hb3⟩; have HAB := Lib.hid hab; have HZ3 := Lib.hid (HZ.out.below hb3 zlt); have e0 := HZ3.out.cell 0; have e1 := HZ3.out.cell 1; have e2 := HZ3.out.cell 2; simp at e0 e1 e2; have g0 := HZ3.out.free 0; have g1 := HZ3.out.free 1; have g2 := HZ3.out.free 2; have HW3 := Lib.hid (HW.out.trans (hb3.mono HW.out.size)); clear hab hb3)
      have HZ4 : OwnC (((w3.setCell ⟨w.heap.size + 1, 0, none⟩ (.float .f32 a)).setCell ⟨w.heap.size + 1, 1, none⟩ (.float .f32 b)).setCell ⟨w.heap.size + 1, 2, none⟩ (.float .f32 c)) (w.heap.size + 1) #[.float .f32 a, .float .f32 b, .float .f32 c] 79 :=
        (((HZ3.out.set 0 _).set 1 _).set 2 _).congr rfl
      have r0 := HZ4.cell 0
      have r1 := HZ4.cell 1
      have r2 := HZ4.cell 2
      simp at r0 r1 r2
      refine bodyPost_ret (v := .agg #[.float .f32 a, .float .f32 b, .float .f32 c]) (by simp [results, Try.results113, go_sem, *]) rfl ⟨⟨a, b, c, rfl, HAB.out⟩, ?_⟩
      exact ((HW3.out.setCell (by simp) _).setCell (by simp) _).setCell (by simp) _

set_option maxHeartbeats 2000000 in
set_option maxRecDepth 100000 in
theorem facetPoints (lo hi : Nat) (sa fa : Option Addr) (sc fc : Nat) (ps : List Sp) (fs : List (List Int)) (hp : ps.length ≤ 1048576) (hn : fs.length ≤ 1048576) (hsh : ∀ i, i < fs.length → (fAt fs i).length ≤ 1048576) (hin : ∀ i, i < fs.length → InN ps.length (fAt fs i)) (w : World) (hs : NetAt w lo hi sa fa ps fs) (hh : hi ≤ w.heap.size) :
    Calls Try.prog 60 #[.agg #[.slice sa ps.length sc, .slice fa fs.length fc]] w fun e w' => (∃ b cap cs, e = .returned (.slice (some ⟨b, 0, none⟩) fs.length cap) ∧ ORow w' 79 3 b cap fs.length cs ∧ SpL cs (midsTo ps fs fs.length) ∧ w.heap.size ≤ b) ∧ Below w.heap.size w w' := by
  have HS := Lib.hid hs
  have HSH := Lib.hid hsh
  have HI := Lib.hid hin
  clear hs hsh hin
  go_enter Try.func60, Try.ntmps60
  go_wp2_with fail
  go_loopw [3, 9] (fun out i wr => ∃ (j b cap : Nat) (cs : List Value), j ≤ fs.length ∧ i = .int .i64 j ∧ out = .slice (some ⟨b, 0, none⟩) j cap ∧ Hid (ORow wr 79 3 b cap j cs) ∧ Hid (SpL cs (midsTo ps fs j)) ∧ w.heap.size < b ∧ Hid (Below w.heap.size w wr) ∧ Hid (OwnC wr w.heap.size #[.slice sa ps.length sc, .slice fa fs.length fc] 33)) (fun _ i _ => fs.length - (intOf i).toNat)
  case atStart =>
    refine ⟨0, _, _, [], by omega, rfl, rfl, ?_, Lib.hid (by simpa [midsTo] using SpL.nil), by omega, Lib.hid (by (repeat (first | exact Below.refl _ _ | assumption | refine below_dr ?_ _ | refine Below.alloc ?_ (by first | omega | (simp; done) | (simp; omega)) _ | refine Below.setCell ?_ (by first | omega | (simp; done) | (simp; omega)) _ | refine Below.trans ?_ (Below.mono (by assumption) (by first | omega | (simp; done) | (simp; omega)))))), Lib.hid ((OwnC.new rfl).alloc _)⟩
    have := ORow.new (w.alloc (.cells #[.slice sa ps.length sc, .slice fa fs.length fc] 33)) 79 3
    simp only [World.size_alloc] at this
    exact this
  case round =>
    obtain ⟨j, b, cap, cs, hj, rfl, rfl, HR, HSP, hbb, HW, HA⟩ := hrel
    have a0 := HA.out.cell 0
    have a1 := HA.out.cell 1
    simp at a0 a1
    by_cases hlt : j < fs.length
    · have k0 : (0 : Int) ≤ (j : Int) := by omega
      have k1 : (j : Int) < (fs.length : Int) := by omega
      have hlj := HSH.out j hlt
      have hij := HI.out j hlt
      have hz := HW.out.size
      have hrl := HR.out.lt
      have hla := HA.out.lt
      have HC := Lib.hid (facetPoint lo hi sa fa sc fc j ps fs hp hlt hn hlj hij wr (HS.out.far (Far.below HW.out hh)) (by omega))
      clear hij
      go_wp2_with (first | (go_at_call 113; refine HC.out.mono ?_; rintro e w3 ⟨⟨x, y, z, rfl, hab⟩, hb3⟩; have HAB := Lib.hid hab; have HR3 := Lib.hid (HR.out.below hb3 hrl); have HA3 := Lib.hid (HA.out.below hb3 hla); have HW3 := Lib.hid (HW.out.trans (hb3.mono hz)); have hz3 := hb3.size; clear hab hb3) | (at_builtin; refine wpList_app rfl _ _ _ rfl 79 (.agg #[.float .f32 0, .float .f32 0, .float .f32 0]) 3 12 Try.underlying30 infoSpot' rfl (by decide) _ #[.float .f32 x, .float .f32 y, .float .f32 z] 79 rfl (by simp [Value.oneCell']) b cap _ _ rfl rfl HR3.out (by omega) (by decide) ?_; intro b5 cap5 w5 hr5 hg5 hgr5))
      have hz5 := HW3.out.size
      have hlb := HA3.out.lt
      go_roundw
      case rel =>
        refine ⟨j + 1, b5, cap5, _, by omega, by go_num, rfl, Lib.hid hr5, ?_, by omega, Lib.hid (HW3.out.trans (hgr5.below (by omega) hz5)), Lib.hid ((hgr5.block _ hlb (by omega)).trans HA3.out)⟩
        show SpL _ _
        rw [midsTo_succ]
        refine HSP.out.snoc ?_ HAB.out
        rw [HR.out.clen, midsTo_len]
      case measure => simp [intOf]; omega
    · have hjn : j = fs.length := by omega
      subst hjn
      go_wp2_with fail
      go_ret
      exact ⟨⟨b, cap, cs, rfl, HR.out, HSP.out, by omega⟩, HW.out⟩
end Go.Proofs.Ytbmahankleijkaa

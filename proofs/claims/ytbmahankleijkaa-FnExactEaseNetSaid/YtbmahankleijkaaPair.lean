/- Contracts: the pairs of corners of all edges or borders, the reference's. -/
import Derived.Test.YtbmahankleijkaaPrS
import Derived.Test.YtbmahankleijkaaEdI
import Derived.Test.YtbmahankleijkaaFaB
namespace Go.Proofs.Ytbmahankleijkaa
open Go.RowKit Go.Fl
/-- the edges told -/
noncomputable def prL (bo : Bool) (fs : List (List Int)) : List Int :=
  prTo (fun s => !bo || decide (backAt (colA fs) (colB fs) s < 0)) (colA fs) (colB fs) (firsts (colA fs) (colB fs) (sumTo fs fs.length)) (firsts (colA fs) (colB fs) (sumTo fs fs.length)).length

set_option maxHeartbeats 2000000 in
set_option maxRecDepth 100000 in
theorem l06Pairs (lo hi pb : Nat) (sa fa : Option Addr) (sn sc fc : Nat) (fs : List (List Int)) (bo : Bool) (hn : fs.length ≤ 1048576) (hsh : ∀ i, i < fs.length → (fAt fs i).length ≤ 1048576) (hok : SideOk fs) (w : World)
    (p0 : w.cell? ⟨pb, 0, none⟩ = some (.slice sa sn sc)) (p1 : w.cell? ⟨pb, 1, none⟩ = some (.slice fa fs.length fc)) (hs : SlN w lo hi fa fs) (hh : hi ≤ w.heap.size) :
    Calls Try.prog 54 #[.pointer (some ⟨pb, 0, none⟩), .bool bo] w fun e w' => ∃ b cap, e = .returned (.slice (some ⟨b, 0, none⟩) (prL bo fs).length cap) ∧ ORow w' 2 1 b cap (prL bo fs).length ((prL bo fs).map (Value.int .i64)) ∧ w.heap.size ≤ b ∧ Below w.heap.size w w' := by
  have IS := Lib.hid (l06Sides lo hi pb sa fa sn sc fc fs hn hsh w p0 p1 hs hh)
  have HK := Lib.hid hok
  clear hsh p0 p1 hs hok
  go_enter Try.func54, Try.ntmps54
  go_wp2_with fail
  refine IS.out.mono ?_
  rintro e w1 ⟨b1, c1, b2, c2, b3, c3, rfl, hR⟩
  have hA1 : SlI w1 b1 (b1 + 1) (some ⟨b1, 0, none⟩) (colA fs) := hR.r1.ints (colTo_len _ _ _).symm
  have hB1 : SlI w1 b2 (b2 + 1) (some ⟨b2, 0, none⟩) (colB fs) := hR.r2.ints (colTo_len _ _ _).symm
  have l1 := hR.r1.lt
  have l2 := hR.r2.lt
  have z1 := hR.below.size
  have HB1 := Lib.hid hR.below
  have SA := Lib.hid hA1
  have SB := Lib.hid hB1
  have hlA : (colA fs).length = sumTo fs fs.length := colTo_len _ _ _
  have hlB : (colB fs).length = sumTo fs fs.length := colTo_len _ _ _
  have HLA := Lib.hid hlA
  have HLB := Lib.hid hlB
  have hfew := HK.out.few
  have HNE := Lib.hid HK.out.ne
  have hPL : Hid (∀ bo', prL bo' fs = prTo (fun s => !bo' || decide (backAt (colA fs) (colB fs) s < 0)) (colA fs) (colB fs) (firsts (colA fs) (colB fs) (sumTo fs fs.length)) (firsts (colA fs) (colB fs) (sumTo fs fs.length)).length) := fun _ => rfl
  clear hR hA1 hB1 hlA hlB IS HK
  generalize colA fs = A at *
  generalize colB fs = B at *
  generalize sumTo fs fs.length = m at *
  go_wp2_with fail
  refine (l06Edges b1 b2 c1 c2 m A B HLA.out HLB.out (by omega) HNE.out w1 SA.out SB.out l1 l2).mono ?_
  rintro e w2 ⟨eb, ec, rfl, hE, zE, hb2⟩
  have z2 := hb2.size
  have zE2 := hE.lt
  have HE := Lib.hid hE
  have SA := Lib.hid (SA.out.far (Far.below hb2 (by omega)))
  have SB := Lib.hid (SB.out.far (Far.below hb2 (by omega)))
  have HB2 := Lib.hid (HB1.out.trans (hb2.mono z1))
  have hfl := firsts_len A B m
  have HFL := Lib.hid (firsts_lt (A := A) (B := B) m)
  clear hE hb2
  have hpl : ∀ k, (prTo (fun s => !bo || decide (backAt A B s < 0)) A B (firsts A B m) k).length ≤ 2 * k := prTo_len _ _ _ _
  have HPL := Lib.hid hpl
  clear hpl
  generalize firsts A B m = L at *
  obtain ⟨p, hp⟩ : ∃ p : Nat → Bool, p = fun s => !bo || decide (backAt A B s < 0) := ⟨_, rfl⟩
  rw [← hp] at HPL
  have HPE : Hid (prL bo fs = prTo p A B L L.length) := Lib.hid (by rw [hp]; exact hPL.out bo)
  have HP := Lib.hid hp
  clear hp hPL
  go_wp2_with fail
  go_loopw [9, 10] (fun out i wr => ∃ k b cap : Nat, k ≤ L.length ∧ i = .int .i64 k ∧ out = .slice (some ⟨b, 0, none⟩) (prTo p A B L k).length cap ∧ Hid (ORow wr 2 1 b cap (prTo p A B L k).length ((prTo p A B L k).map (Value.int .i64))) ∧ w2.heap.size ≤ b ∧ Hid (Below w2.heap.size w2 wr)) (fun _ i _ => L.length - (intOf i).toNat)
  case atStart => exact ⟨0, _, _, by omega, rfl, rfl, ORow.new w2 _ _, Nat.le_refl _, Below.alloc (Below.refl _ _) (Nat.le_refl _) _⟩
  case round =>
    obtain ⟨k, b, cap, hk, rfl, rfl, HR, hbb, HW⟩ := hrel
    by_cases hlt : k < L.length
    · obtain ⟨s, hs⟩ : ∃ s, s = L.getD k 0 := ⟨_, rfl⟩
      have hsm : s < m := by
        refine HFL.out s ?_
        rw [hs, List.getD_eq_getElem?_getD, List.getElem?_eq_getElem hlt]
        exact List.getElem_mem hlt
      have e0 : wr.cell? ⟨eb, k, none⟩ = some (.int .i64 (s : Int)) := by
        refine keep_cell HW.out ?_
        rw [HE.out.cell k (by omega), hs]
        simp [hlt]
      have SA1 := Lib.hid (SA.out.far (Far.below (lo := b1) HW.out (by omega)))
      have SB1 := Lib.hid (SB.out.far (Far.below (lo := b2) HW.out (by omega)))
      obtain ⟨_, _, he1, _, _, hc1⟩ := SA1.out (by have := HLA.out; omega)
      obtain ⟨_, _, he2, _, _, hc2⟩ := SB1.out (by have := HLB.out; omega)
      cases he1
      cases he2
      have a1 := hc1 s (by have := HLA.out; omega)
      have a2 := hc2 s (by have := HLB.out; omega)
      rw [Nat.zero_add] at a1 a2
      have hlen := HPL.out k
      have k0 : (0 : Int) ≤ (k : Int) := by omega
      have k1 : (k : Int) < (L.length : Int) := by omega
      have s0 : (0 : Int) ≤ (s : Int) := by omega
      have s1 : (s : Int) < (m : Int) := by omega
      have hA' := HLA.out
      have hB' := HLB.out
      have HS := Lib.hid hs
      have HD : Hid (sideAt A B (iAt B s) (iAt A s) = backAt A B s) := Lib.hid rfl
      clear hc1 hc2 hs
      have HY : Hid (p s = true → prTo p A B L (k + 1) = prTo p A B L k ++ [iAt A s, iAt B s]) := fun h => by rw [HS.out] at h ⊢; exact prTo_yes h
      have HNo : Hid (p s = false → prTo p A B L (k + 1) = prTo p A B L k) := fun h => by rw [HS.out] at h; exact prTo_no h
      cases hps : p s with
      | true =>
        have HF := Lib.hid (HY.out hps)
        cases bo with
        | false =>
          clear hps
          go_wp2_with (at_builtin; refine wpList_appN rfl _ _ _ rfl 2 (.int .i64 0) 1 8 Try.underlying27 infoInt rfl (by decide) _ #[.int .i64 (iAt A s), .int .i64 (iAt B s)] 2 2 rfl (by simp [Value.oneCell']) _ b cap _ _ rfl rfl (by simp) (by omega) (by omega) HR.out (by omega) (by decide) ?_; intro b4 cap4 w4 hr4 hg4 hgr4)
          have hz2 := HW.out.size
          go_roundw
          case rel =>
            refine ⟨k + 1, b4, cap4, by omega, by go_num, by rw [HF.out]; simp, ?_, by omega, HW.out.trans (hgr4.below hbb hz2)⟩
            rw [HF.out]
            have := hr4
            simp only [List.map_append, List.map_cons, List.map_nil, List.length_append, List.length_cons, List.length_nil]
            exact this
          case measure => simp [intOf]; omega
        | true =>
          have hlt0 : backAt A B s < 0 := by rw [HP.out] at hps; simpa using hps
          clear hps
          go_wp2_with (first | (go_at_call 98; refine (l06SideN b1 (b1 + 1) b2 (b2 + 1) m (some ⟨b1, 0, none⟩) (some ⟨b2, 0, none⟩) c1 c2 A B (iAt B s) (iAt A s) (by omega) hA' hB' _ SA1.out SB1.out).mono ?_; rintro e w3 ⟨rfl, rfl⟩; rw [HD.out]) | (at_builtin; refine wpList_appN rfl _ _ _ rfl 2 (.int .i64 0) 1 8 Try.underlying27 infoInt rfl (by decide) _ #[.int .i64 (iAt A s), .int .i64 (iAt B s)] 2 2 rfl (by simp [Value.oneCell']) _ b cap _ _ rfl rfl (by simp) (by omega) (by omega) HR.out (by omega) (by decide) ?_; intro b4 cap4 w4 hr4 hg4 hgr4))
          have hz2 := HW.out.size
          go_roundw
          case rel =>
            refine ⟨k + 1, b4, cap4, by omega, by go_num, by rw [HF.out]; simp, ?_, by omega, HW.out.trans (hgr4.below hbb hz2)⟩
            rw [HF.out]
            have := hr4
            simp only [List.map_append, List.map_cons, List.map_nil, List.length_append, List.length_cons, List.length_nil]
            exact this
          case measure => simp [intOf]; omega
      | false =>
        have HF := Lib.hid (HNo.out hps)
        cases bo with
        | false => rw [HP.out] at hps; simp at hps
        | true =>
          have hlt0 : ¬ backAt A B s < 0 := by rw [HP.out] at hps; simpa using hps
          clear hps
          go_wp2_with ((go_at_call 98; refine (l06SideN b1 (b1 + 1) b2 (b2 + 1) m (some ⟨b1, 0, none⟩) (some ⟨b2, 0, none⟩) c1 c2 A B (iAt B s) (iAt A s) (by omega) hA' hB' _ SA1.out SB1.out).mono ?_; rintro e w3 ⟨rfl, rfl⟩; rw [HD.out]))
          go_roundw
          case rel => exact ⟨k + 1, b, cap, by omega, by go_num, by rw [HF.out], by rw [HF.out]; exact HR, hbb, HW⟩
          case measure => simp [intOf]; omega
    · have hkl : k = L.length := by omega
      subst hkl
      go_wp2_with fail
      go_ret
      rw [HPE.out]
      exact ⟨b, cap, rfl, HR.out, by omega, HB2.out.trans (HW.out.mono (by omega))⟩
end Go.Proofs.Ytbmahankleijkaa

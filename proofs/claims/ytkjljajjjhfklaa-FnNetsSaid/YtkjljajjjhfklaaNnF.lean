/- Nets, the law: RoundNet walked. -/
import Derived.Test.YtkjljajjjhfklaaNnE
namespace Go.Proofs.Ytkjljajjjhfklaa
open Go.RowKit Go.Fl
set_option maxHeartbeats 8000000 in
set_option maxRecDepth 100000 in
theorem roundNetN (lo hi : Nat) (sa fa : Option Addr) (sc fc : Nat) (ps : List Sp) (fs : List (List Int)) (hp : ps.length ≤ 1048576) (hn : fs.length ≤ 1048576) (hsh : ∀ i, i < fs.length → (fAt fs i).length ≤ 1048576) (hv : okN ps fs = true) (hv2 : okN (rnP ps fs) (rnF fs ps.length) = true) (w : World)
    (hs : NetAt w lo hi sa fa ps fs) (hca : SlC w lo hi fa fs) (hh : hi ≤ w.heap.size) :
    Calls Try.prog 9 #[netV sa fa ps.length sc fs.length fc] w (RetN (rnP ps fs) (rnF fs ps.length) true w) := by
  have hok := okN_net hv
  have hside := OkNet.sideOk hok
  have hV : ∀ W, Below w.heap.size w W → Calls Try.prog 26 #[.agg #[.slice sa ps.length sc, .slice fa fs.length fc]] W fun e w' => e = .returned (.bool true) ∧ Below W.heap.size W w' := fun W hW => by
    have := validNet lo hi sa fa sc fc ps fs hp hn hsh W (hs.far (Far.below hW hh)) (hca.far (Far.below hW hh)) (by have := hW.size; omega)
    have e : dec (OkNet ps fs (colA fs) (colB fs)) = true := hv
    rw [e] at this
    exact this
  have HV := Lib.hid hV
  have HED := Lib.hid (fun W (hW : Below w.heap.size w W) => edgesI lo hi sa fa ps.length sc fc fs hn hsh hside W (hs.facets.far (Far.below hW hh)) (by have := hW.size; omega))
  have HFP := Lib.hid (fun W (hW : Below w.heap.size w W) => facetPoints lo hi sa fa sc fc ps fs hp hn hsh (fun i hi => (hok.facets i hi).inN) W (hs.far (Far.below hW hh)) (by have := hW.size; omega))
  have HRD := Lib.hid (fun (eb ec mb mc i : Nat) (hip : i < ps.length) (W : World) (hW : Below w.heap.size w W) he heb hm hh' => roundedN lo hi mb (mb + 1) sa fa sc fc eb ec mb mc i ps fs hp hn hsh hok hip W (hs.far (Far.below hW hh)) (by have := hW.size; omega) he heb hm hh')
  have HOK := Lib.hid hok
  have HS := Lib.hid hs
  have HSH := Lib.hid hsh
  have HV2 := Lib.hid hv2
  have HEOK := Lib.hid (fun k (hk : k < (fsts fs).length) => edge_ok hok hk)
  have HSIDE := Lib.hid hside
  obtain ⟨sb, so, hsa, ls1, ls2, _⟩ := hs.spots (by have := hok.n3; omega)
  subst hsa
  have hn3 := hok.n3
  have hn256 := hok.n256
  have hf1 := hok.f1
  have hf256 := hok.f256
  have hE2 : (fsts fs).length ≤ 2048 := Nat.le_trans (firsts_lenA fs) (OkNet.sum hok)
  have HB0 : Hid (Below w.heap.size w ((w.alloc (.cells #[.slice (some ⟨sb, so, none⟩) ps.length sc, .slice fa fs.length fc] 27)).alloc (.cells #[.slice none 0 0, .slice none 0 0] 27))) := Lib.hid (by (repeat (first | exact Below.refl _ _ | assumption | refine below_dr ?_ _ | refine Below.alloc ?_ (by first | omega | (simp; done) | (simp; omega)) _ | refine Below.setCell ?_ (by first | omega | (simp; done) | (simp; omega)) _ | refine Below.trans ?_ (Below.mono (by assumption) (by first | omega | (simp; done) | (simp; omega))))))
  have HN0 : Hid (OwnC ((w.alloc (.cells #[.slice (some ⟨sb, so, none⟩) ps.length sc, .slice fa fs.length fc] 27)).alloc (.cells #[.slice none 0 0, .slice none 0 0] 27)) w.heap.size #[.slice (some ⟨sb, so, none⟩) ps.length sc, .slice fa fs.length fc] 27) := Lib.hid ((OwnC.new rfl).alloc _)
  have HR0 : Hid (OwnC ((w.alloc (.cells #[.slice (some ⟨sb, so, none⟩) ps.length sc, .slice fa fs.length fc] 27)).alloc (.cells #[.slice none 0 0, .slice none 0 0] 27)) (w.heap.size + 1) #[.slice none 0 0, .slice none 0 0] 27) := Lib.hid (OwnC.new (by simp))
  clear hok hside hV hs hca hsh hv hv2
  unfold netV at HED ⊢
  go_enter Try.func9, Try.ntmps9
  go_wp2_with fail
  refine (HV.out _ HB0.out).mono ?_
  rintro e w3 ⟨rfl, hb3⟩
  have z3 := hb3.size
  simp at z3
  have HB3 := Lib.hid (HB0.out.trans (hb3.mono (by simp; omega)))
  have HN3 := Lib.hid (HN0.out.below hb3 (by simp; omega))
  have HR3 := Lib.hid (HR0.out.below hb3 (by simp))
  have n0 := HN3.out.cell 0
  have n1 := HN3.out.cell 1
  simp at n0 n1
  clear hb3 HB0 HN0 HR0 HV
  have hBd : Below w.heap.size w w3.drew := below_dr HB3.out 1
  have hBe : Below w3.heap.size w3 w3.drew := below_dr (Below.refl _ _) 1
  have HKS : Hid (∀ W, Below w3.heap.size w3 W → W.cell? ⟨w.heap.size, 0, none⟩ = some (.slice (some ⟨sb, so, none⟩) ps.length sc) ∧ W.cell? ⟨w.heap.size, 1, none⟩ = some (.slice fa fs.length fc)) := Lib.hid fun W hW => ⟨keep_cell hW n0, keep_cell hW n1⟩
  go_wp2_with fail
  go_upto_region 3 with fail
  go_cut [4, 5] from 24 to 27 (fun u4 u5 wx => ∃ eb ec mb mc cs, u4 = .slice (some ⟨eb, 0, none⟩) (fsts fs).length ec ∧ u5 = .slice (some ⟨mb, 0, none⟩) fs.length mc ∧ Hid (ORow wx 64 4 eb ec (fsts fs).length ((edL (colA fs) (colB fs) (colF fs) (sumTo fs fs.length)).map (Value.int .i64))) ∧ Hid (ORow wx 46 3 mb mc fs.length cs) ∧ Hid (SpL cs (midsTo ps fs fs.length)) ∧ w3.heap.size ≤ eb ∧ w3.heap.size ≤ mb ∧ Hid (Below w3.heap.size w3 wx))
  case first =>
    --[[
    go_region_held3 (fun W => W.cell? ⟨w.heap.size, 0, none⟩ = some (.slice (some ⟨sb, so, none⟩) ps.length sc) ∧ W.cell? ⟨w.heap.size, 1, none⟩ = some (.slice fa fs.length fc)) (first | exact HKS.out _ hBk | go_keep) (first
      | (go_at_call 27; first
          | ((with_reducible refine (HED.out _ hBd).mono ?_); rintro e w4 ⟨eb, ec, rfl, hE, zE, hb4⟩; have HE := Lib.hid hE; have hBk : Below w3.heap.size w3 w4 := hBe.trans hb4; have hBw : Below w.heap.size w w4 := HB3.out.trans (hBk.mono HB3.out.size); have zE' : w3.heap.size ≤ eb := zE; clear hE hb4 zE)
          | ((with_reducible refine (HED.out _ hBw).mono ?_); rintro e w5 ⟨eb, ec, rfl, hE, zE, hb4⟩; have HE := Lib.hid hE; have HM2 := Lib.hid (HM.out.below hb4 HM.out.lt); have zE' : w3.heap.size ≤ eb := Nat.le_trans hBk.size zE; replace hBk := hBk.trans (hb4.mono hBk.size); clear hE hb4 zE))
      | (go_at_call 28; first
          | ((with_reducible refine (HFP.out _ hBd).mono ?_); rintro e w4 ⟨⟨mb, mc, cs, rfl, hM, hsp, zM⟩, hb4⟩; have HM := Lib.hid hM; have HSP := Lib.hid hsp; have hBk : Below w3.heap.size w3 w4 := hBe.trans hb4; have hBw : Below w.heap.size w w4 := HB3.out.trans (hBk.mono HB3.out.size); have zM' : w3.heap.size ≤ mb := zM; clear hM hb4 zM hsp)
          | ((with_reducible refine (HFP.out _ hBw).mono ?_); rintro e w5 ⟨⟨mb, mc, cs, rfl, hM, hsp, zM⟩, hb4⟩; have HM2 := Lib.hid hM; have HSP := Lib.hid hsp; have HE2 := Lib.hid (HE.out.below hb4 HE.out.lt); have zM' : w3.heap.size ≤ mb := Nat.le_trans hBk.size zM; replace hBk := hBk.trans (hb4.mono hBk.size); clear hM hb4 zM hsp)))
    all_goals
      go_wp2_with fail
      go_meet
      first
        | exact ⟨eb, ec, mb, mc, cs, rfl, rfl, HE2, HM2, HSP, zE', zM', Lib.hid hBk⟩
        | exact ⟨eb, ec, mb, mc, cs, rfl, rfl, HE, HM2, HSP, zE', zM', Lib.hid hBk⟩
    --]]
  case rest =>
    obtain ⟨eb, ec, mb, mc, csM, rfl, rfl, HE, HM, HSP, zE, zM, HBX⟩ := hcut
    obtain ⟨wx, hwx⟩ : ∃ x : World, x = wc := ⟨_, rfl⟩
    rw [← hwx] at HE HM HBX ⊢
    have zx := HBX.out.size
    have lE := HE.out.lt
    have lM := HM.out.lt
    have n0x := keep_cell HBX.out n0
    have n1x := keep_cell HBX.out n1
    have HNx := Lib.hid (HN3.out.below HBX.out (by omega))
    have HRx := Lib.hid (HR3.out.below HBX.out (by omega))
    have HBw := Lib.hid (HB3.out.trans (HBX.out.mono HB3.out.size))
    have hO : OwnC (wx.alloc (.cells #[.slice none 0 0, .slice none 0 0] 27)) wx.heap.size #[.slice none 0 0, .slice none 0 0] 27 := OwnC.new rfl
    have hB : Below wx.heap.size wx (wx.alloc (.cells #[.slice none 0 0, .slice none 0 0] 27)) := Below.alloc (Below.refl _ _) (Nat.le_refl _) _
    have z8 : (wx.alloc (.cells #[.slice none 0 0, .slice none 0 0] 27)).heap.size = wx.heap.size + 1 := by simp
    clear hwx HED HFP hBd hBe HKS
    have a0 := keep_alloc (.cells #[.slice none 0 0, .slice none 0 0] 27) n0x
    have a1 := keep_alloc (.cells #[.slice none 0 0, .slice none 0 0] 27) n1x
    have hNl : w.heap.size < wx.heap.size := by omega
    have hNn : ¬ w.heap.size = wx.heap.size := by omega
    go_wp2_with fail
    generalize hwb : wx.alloc (.cells #[.slice none 0 0, .slice none 0 0] 27) = wb at *
    have HN := Lib.hid (HNx.out.below hB (by omega))
    have HR := Lib.hid (HRx.out.below hB (by omega))
    have HEb := Lib.hid (HE.out.below hB lE)
    have HMb := Lib.hid (HM.out.below hB lM)
    have HBb := Lib.hid (HBw.out.trans (hB.mono (by omega)))
    have HZ8 := Lib.hid z8
    obtain ⟨ob, hob⟩ : ∃ ob, ob = wx.heap.size := ⟨_, rfl⟩
    rw [← hob] at hO z8 zx lE lM hNl hNn ⊢
    have HO := Lib.hid hO
    have HMS : Hid (SlP wb mb (mb + 1) (some ⟨mb, 0, none⟩) (midsTo ps fs fs.length)) := Lib.hid (by
      have h := HMb.out
      have e := midsTo_len ps fs fs.length
      exact ORow.spots (by rw [e]; exact h) HSP.out)
    have HRD2 : Hid (∀ i, i < ps.length → ∀ W, Ch (fun c => c = ob) wb W → Calls Try.prog 29 #[.agg #[.slice (some ⟨sb, so, none⟩) ps.length sc, .slice fa fs.length fc], .int .i64 (i : Nat), .slice (some ⟨eb, 0, none⟩) (fsts fs).length ec, .slice (some ⟨mb, 0, none⟩) fs.length mc] W fun e w' =>
        (∃ a b c, e = .returned (.agg #[.float .f32 a, .float .f32 b, .float .f32 c]) ∧ IsSp a b c (rdP ps fs i)) ∧ Below W.heap.size W w') := Lib.hid fun i hi W hW => by
      have hzW := hW.size
      refine HRD.out eb ec mb mc i hi W (HBb.out.trans (hW.toBelow (by omega) (fun c hc => by omega))) (fun k r h1 h2 => hW.cell (edRow HEb.out h1 r h2) (by omega)) (by omega) (HMS.out.far (hW.far (by omega) (fun c h1 h2 e => by omega))) (by omega)
    clear hB hO hwb HNx HRx HE HM HBw n0x n1x a0 a1 HRD hob n0 n1
    obtain ⟨K, hK⟩ : ∃ K, K = ps.length + fs.length := ⟨_, rfl⟩
    have HKE := Lib.hid hK
    have hK5 : K ≤ 512 := by omega
    clear hK
    go_loopw [32] (fun iv wr => ∃ (j : Nat) (v : Value) (cs : List Value), j ≤ ps.length ∧ iv = .int .i64 j ∧ Hid (SpI wb wr ob (.slice none 0 0) v j (rn1 ps fs j) cs)) (fun iv _ => ps.length - (intOf iv).toNat)
    case atStart => exact ⟨0, _, _, by omega, rfl, Lib.hid (SpI.start HO.out)⟩
    case round =>
      obtain ⟨j, v, cs, hj, rfl, HI⟩ := hrel
      have hzr := HI.out.ch.size
      have n0 := (HI.out.ch.own HN.out (by omega)).cell 0
      have n1 := (HI.out.ch.own HN.out (by omega)).cell 1
      have o0 := HI.out.own.cell 0
      simp at n0 n1 o0
      by_cases hlt : j < ps.length
      · have j0 : (0 : Int) ≤ (j : Int) := by omega
        have j1 : (j : Int) < (ps.length : Int) := by omega
        have hcd : Ch (fun c => c = ob) wb wr.drew := HI.out.ch.trans (P' := fun _ => False) (Ch.drewN _ wr 1) (fun _ h => h.elim)
        have HC := Lib.hid (HRD2.out j hlt wr.drew hcd)
        have hBe : Below wr.heap.size wr wr.drew := below_dr (Below.refl _ _) 1
        clear hcd
        --[[
        go_wp2_with fail
        go_region_law (first
          | (go_simp; go_at_call 29; (refine HC.out.mono ?_); rintro e w6 ⟨⟨a, b, c, rfl, hab⟩, hb6⟩; have HAB := Lib.hid hab; have B6 : Below wr.heap.size wr w6 := hBe.trans hb6; have n06 := keep_cell B6 n0; have n16 := keep_cell B6 n1; have o06 := keep_cell B6 o0; have o06a := keep_alloc (.cells #[.float .f32 a, .float .f32 b, .float .f32 c] 46) o06; have HRV : Hid (ORow0 (w6.alloc (.cells #[.float .f32 a, .float .f32 b, .float .f32 c] 46)) 46 3 v j cs) := Lib.hid (ORow0.below HI.out.row (B6.alloc B6.size _)); have HB6 := Lib.hid B6; clear hab hb6 B6)
          | (refine step_app0 rfl _ _ _ rfl 46 (.agg #[.float .f32 0, .float .f32 0, .float .f32 0]) 3 12 Try.underlying24 infoSpot' rfl (by decide) v j cs rfl HRV.out ⟨w6.heap.size, 0, none⟩ 1 1 [.float .f32 a, .float .f32 b, .float .f32 c] rfl rfl (World.news_of_block (heap_alloc_new w6 _)) (by simp [Value.oneCell']) (by decide) (by omega) (by decide) ?_; intro b7 c7 w7 hr7 hb7 hl7 hg7; have HST := Lib.hid (HI.out.step (rs := [rdP ps fs j]) (by omega) (HB6.out.alloc HB6.out.size _) rfl hg7 hr7 hb7 (HI.out.sp.snoc HI.out.clen HAB.out)); have o17 := HST.out.own7.cell 0; have o17f := HST.out.own7.free 0; simp at o17; clear hr7 hb7 hg7))
        all_goals (try go_wp2_with fail)
        all_goals
          go_roundw
          all_goals first
            | exact ⟨j + 1, _, _, by omega, by go_num, Lib.hid (by rw [rn1_succ]; exact HST.out.i)⟩
            | (simp [intOf]; omega)
        --]]
      · obtain rfl : j = ps.length := by omega
        obtain ⟨bv, cv, rfl, hrow⟩ := ORow0.form HI.out.row (by omega)
        have HSPI := Lib.hid HI.out
        have hnew := HI.out.new bv rfl
        have hms : SlP wr mb (mb + 1) (some ⟨mb, 0, none⟩) (midsTo ps fs fs.length) := HMS.out.far (HI.out.ch.far (by omega) (fun c h1 h2 e => by omega))
        obtain ⟨cs2, hl2, hsp2, hone2, hnews2⟩ := SlP.news hms
        have HL2 := Lib.hid hl2
        have HSP2 := Lib.hid hsp2
        have HONE := Lib.hid hone2
        have HNEWS := Lib.hid hnews2
        have HROW := Lib.hid (ORow.row0 hrow)
        have hBe : Below wr.heap.size wr wr := Below.refl _ _
        have of := HI.out.own.free 0
        clear hrow hms hl2 hsp2 hone2 hnews2
        have hmm := @run_makeMap Try.prog
        go_wp2_with (at_builtin; refine wpList_app0 rfl _ _ _ rfl 46 (.agg #[.float .f32 0, .float .f32 0, .float .f32 0]) 3 12 Try.underlying24 infoSpot' rfl (by decide) _ (.slice (some ⟨bv, 0, none⟩) ps.length cv) ps.length cs rfl HROW.out ⟨mb, 0, none⟩ fs.length mc cs2 rfl (by rw [HL2.out, midsTo_len]) HNEWS.out HONE.out (by omega) (by omega) (by decide) ?_; intro b7 c7 w7 hr7 hb7 hl7 hg7; have HST := Lib.hid (HSPI.out.step (rs := midsTo ps fs fs.length) (by omega) hBe (midsTo_len _ _ _) hg7 hr7 hb7 (SpL.app HSPI.out.sp HSPI.out.clen HSP2.out)); have o17 := HST.out.own7.cell 0; have o17f := HST.out.own7.free 0; simp at o17; clear hr7 hb7 hg7)
        clear hmm
        have hI2 := HST.out.i
        have e20 : rn1 ps fs ps.length ++ midsTo ps fs fs.length = rn2 ps fs 0 := by simp [rn2, rn3]
        rw [e20, ← HKE.out] at hI2
        rw [← HKE.out]
        have hz7 := HST.out.size
        have hb7 := hI2.new b7 rfl
        have hl8 := ORow0.lt hI2.row (b := b7) rfl
        have hwz : (w7.setCell ⟨ob, 0, none⟩ (.slice (some ⟨b7, 0, none⟩) K c7)).heap.size = w7.heap.size := by simp
        generalize w7.setCell ⟨ob, 0, none⟩ (.slice (some ⟨b7, 0, none⟩) K c7) = w8 at *
        have hz8 := hI2.ch.size
        obtain ⟨M, hM⟩ : ∃ M, M = w8.heap.size := ⟨_, rfl⟩
        have hMap : OMap (w8.alloc (.map #[] 0)) M 0 (plM fs K 0) := by rw [hM]; exact OMap.made w8
        have hI3 : SpI wb (w8.alloc (.map #[] 0)) ob (.slice none 0 0) (.slice (some ⟨b7, 0, none⟩) K c7) K (rn2 ps fs 0) (cs ++ cs2) :=
          ⟨hI2.len, ORow0.below hI2.row (Below.alloc (Below.refl _ _) (Nat.le_refl _) _), hI2.sp, hI2.new, hI2.own.alloc _, hI2.ch.trans (P' := fun _ => False) (Ch.below (Below.alloc (Below.refl _ _) (Nat.le_refl _) _)) (fun _ h => h.elim)⟩
        have HI3 := Lib.hid hI3
        have HMAP := Lib.hid hMap
        have hMb : ¬ b7 = M := by omega
        have hMw : wb.heap.size ≤ M := by omega
        have hM7 : M = w7.heap.size := by omega
        rw [← hM7]
        have HME := Lib.hid hM
        clear hI2 e20 hI3 hMap HST HSPI HI n0 n1 o0 HROW HL2 HSP2 HONE HNEWS hnew of hBe o17 o17f hM HRD2 hj hlt hM7 hwz
        go_loopw [54] (fun iv wr => ∃ (t bv cv : Nat) (cs : List Value), t ≤ (fsts fs).length ∧ iv = .int .i64 t ∧ Hid (SpI wb wr ob (.slice none 0 0) (.slice (some ⟨bv, 0, none⟩) (K + t) cv) (K + t) (rn2 ps fs t) cs) ∧ Hid (OMap wr M (2 * t) (plM fs K t)) ∧ ¬ bv = M) (fun iv _ => (fsts fs).length - (intOf iv).toNat)
        case atStart => exact ⟨0, _, _, _, by omega, rfl, HI3, HMAP, hMb⟩
        case round =>
          clear HI3 HMAP hMb
          obtain ⟨t, bv, cv, cs, ht, rfl, HI, HMP, hbM⟩ := hrel
          have hzr := HI.out.ch.size
          have hnew := HI.out.new bv rfl
          have hbvl := ORow0.lt HI.out.row (b := bv) rfl
          have hMl := HMP.out.lt
          have n0 := (HI.out.ch.own HN.out (by omega)).cell 0
          have n1 := (HI.out.ch.own HN.out (by omega)).cell 1
          have o0 := HI.out.own.cell 0
          simp at n0 n1 o0
          by_cases hlt : t < (fsts fs).length
          · have t0 : (0 : Int) ≤ (t : Int) := by omega
            have t1 : (t : Int) < ((fsts fs).length : Int) := by omega
            have c0 := HI.out.ch.cell (edRow HEb.out hlt 0 (by omega)) (by omega)
            have c1 := HI.out.ch.cell (edRow HEb.out hlt 1 (by omega)) (by omega)
            have c2 := HI.out.ch.cell (edRow HEb.out hlt 2 (by omega)) (by omega)
            have c3 := HI.out.ch.cell (edRow HEb.out hlt 3 (by omega)) (by omega)
            rw [Nat.add_zero] at c0
            simp only [edP] at c0 c1 c2 c3
            obtain ⟨hslt, hEK⟩ := HEOK.out t hlt
            have hput := fun x y => plM_put (fs := fs) (base := K) (t := t) x y
            obtain ⟨s, hs⟩ : ∃ s, s = (fsts fs).getD t 0 := ⟨_, rfl⟩
            have e1 : (firsts (colA fs) (colB fs) (sumTo fs fs.length)).getD t 0 = s := hs.symm
            rw [e1] at c0 c1 c2 c3
            rw [← hs] at hslt hEK hput
            have HSE := Lib.hid hs
            have ia := HSIDE.out.inA s hslt
            have ib := HSIDE.out.inB s hslt
            obtain ⟨u1, hu1, hu1n⟩ := hEK.a
            obtain ⟨u2, hu2, hu2n⟩ := hEK.b
            obtain ⟨u3, hu3, hu3n⟩ := hEK.f
            obtain ⟨G, hG⟩ : ∃ G, G = secF (colA fs) (colB fs) (colF fs) (sumTo fs fs.length) s := ⟨_, rfl⟩
            have hg := hEK.g
            rw [← hG] at hg
            rw [← hG] at c3
            rw [hu1] at c0 ia hput
            rw [hu2] at c1 ib hput
            rw [hu3] at c2
            have HG := Lib.hid hG
            have HU1 := Lib.hid hu1
            have HU2 := Lib.hid hu2
            have HU3 := Lib.hid hu3
            have HGG := Lib.hid hg
            have hsw : SlP wr lo hi (some ⟨sb, so, none⟩) ps := HS.out.spots.far ((Far.below HBb.out hh).trans (HI.out.ch.far (by have := HBb.out.size; omega) (fun c h1 h2 e => by omega)))
            obtain ⟨_, _, hsa, _, _, hcs⟩ := hsw (by omega)
            cases hsa
            obtain ⟨x1, y1, z1, d1, d2, d3, f1, f2, f3⟩ := hcs u1 hu1n
            obtain ⟨x2, y2, z2, g1, g2, g3, f4, f5, f6⟩ := hcs u2 hu2n
            have HPA := Lib.hid (IsSp.of f1 f2 f3)
            have HPB := Lib.hid (IsSp.of f4 f5 f6)
            have v0 : (0 : Int) ≤ (u1 : Int) := by omega
            have v1 : (u1 : Int) < (ps.length : Int) := by omega
            have v2 : (0 : Int) ≤ (u2 : Int) := by omega
            have v3 : (u2 : Int) < (ps.length : Int) := by omega
            obtain ⟨KT, hKT⟩ : ∃ k, k = K + t := ⟨_, rfl⟩
            rw [← hKT] at HI o0 hput
            have HPUT := Lib.hid hput
            have HKT := Lib.hid hKT
            have hKT1 : (KT : Int) ≤ 2560 := by omega
            have o0A := keep_alloc (.cells #[.int .i64 (u1 : Nat), .int .i64 (u2 : Nat), .int .i64 (u3 : Nat), .int .i64 G] 64) o0
            have hBA : Below wr.heap.size wr (wr.alloc (.cells #[.int .i64 (u1 : Nat), .int .i64 (u2 : Nat), .int .i64 (u3 : Nat), .int .i64 G] 64)) := Below.alloc (Below.refl _ _) (Nat.le_refl _) _
            have hEA : OwnC (wr.alloc (.cells #[.int .i64 (u1 : Nat), .int .i64 (u2 : Nat), .int .i64 (u3 : Nat), .int .i64 G] 64)) wr.heap.size #[.int .i64 (u1 : Nat), .int .i64 (u2 : Nat), .int .i64 (u3 : Nat), .int .i64 G] 64 := OwnC.new rfl
            have HBA := Lib.hid hBA
            have HEA := Lib.hid hEA
            have HMA := Lib.hid (HMP.out.below hBA hMl)
            have HZA : Hid ((wr.alloc (.cells #[.int .i64 (u1 : Nat), .int .i64 (u2 : Nat), .int .i64 (u3 : Nat), .int .i64 G] 64)).heap.size = wr.heap.size + 1) := Lib.hid (by simp)
            clear hs e1 hslt hEK hu1 hu2 hu3 hG hg hsw hcs f1 f2 f3 f4 f5 f6 hput hKT hBA hEA
            go_wp2_with fail
            go_upto_region 16 with fail
            generalize wr.alloc (.cells #[.int .i64 (u1 : Nat), .int .i64 (u2 : Nat), .int .i64 (u3 : Nat), .int .i64 G] 64) = wA at *
            have za := HZA.out
            have e0 := HEA.out.cell 0
            have e1 := HEA.out.cell 1
            simp at e0 e1
            go_cut [] from 61 to 74 (fun wx => Hid (OMap wx M (2 * t + 2) (plM fs K (t + 1))) ∧ Hid (Ch (fun c => c = M) wA wx))
            case first =>
              --[[
              have hMd : OMap wA.drew M (2 * t) (plM fs K t) := HMA.out.of_block rfl
              have hcd : Ch (fun c => c = M) wA wA.drew := Ch.drewN _ wA 1
              have hpeM : ¬ wr.heap.size = M := by omega
              have gU := Try.underlying67
              obtain ⟨wS, rS, mS, gS⟩ := omap_store hMd gU ia ib (.int .i64 (KT : Nat))
              obtain ⟨wS2, rS2, mS2, gS2⟩ := omap_store mS gU ib ia (.int .i64 (KT : Nat))
              have cS : Ch (fun c => c = M) wA wS := hcd.trans (P' := fun c => c = M) (Ch.grew gS rfl) (fun c hc => .inl hc)
              have HCS := Lib.hid (cS.trans (P' := fun c => c = M) (Ch.grew gS2 rfl) (fun c hc => .inl hc))
              have HMS2 := Lib.hid mS2
              have e0S := cS.cell e0 hpeM
              have e1S := cS.cell e1 hpeM
              unfold keyV at rS rS2
              clear hMd hcd mS gS mS2 gS2 cS gU
              go_region
              all_goals (try go_wp2_with fail)
              all_goals go_meet
              exact ⟨Lib.hid (HMS2.out.congr HPUT.out), HCS⟩
              --]]
            case rest =>
            obtain ⟨HMP9, HC9⟩ := hcut
            obtain ⟨v9, hv9⟩ : ∃ x : World, x = wc := ⟨_, rfl⟩
            rw [← hv9] at HMP9 HC9 ⊢
            have z9 := HC9.out.size
            have HCR : Hid (Ch (fun c => c = M) wr v9) := Lib.hid ((Ch.below HBA.out).trans (P' := fun c => c = M) (P := fun c => c = M) HC9.out (fun c hc => .inl hc))
            obtain ⟨pe, hpe⟩ : ∃ p, p = wr.heap.size := ⟨_, rfl⟩
            have hpeM : ¬ pe = M := by omega
            have hpel : pe < v9.heap.size := by omega
            have HE9 : Hid (OwnC v9 pe #[.int .i64 (u1 : Nat), .int .i64 (u2 : Nat), .int .i64 (u3 : Nat), .int .i64 G] 64) := Lib.hid (by rw [hpe]; exact HC9.out.own HEA.out (by omega))
            rw [← hpe]
            have n09 := HCR.out.cell n0 (by omega)
            have d19 := HCR.out.cell d1 (by omega)
            have d29 := HCR.out.cell d2 (by omega)
            have d39 := HCR.out.cell d3 (by omega)
            have g19 := HCR.out.cell g1 (by omega)
            have g29 := HCR.out.cell g2 (by omega)
            have g39 := HCR.out.cell g3 (by omega)
            have e09 := HE9.out.cell 0
            have e19 := HE9.out.cell 1
            simp at e09 e19
            have HPE := Lib.hid hpe
            have HKS : Hid (∀ W, Below v9.heap.size v9 W → W.cell? ⟨w.heap.size, 0, none⟩ = some (.slice (some ⟨sb, so, none⟩) ps.length sc) ∧ W.cell? ⟨pe, 0, none⟩ = some (.int .i64 (u1 : Nat)) ∧ W.cell? ⟨pe, 1, none⟩ = some (.int .i64 (u2 : Nat)) ∧ W.cell? ⟨sb, so + u1 * 3, none⟩ = some (.float .f32 x1) ∧ W.cell? ⟨sb, so + u1 * 3 + 1, none⟩ = some (.float .f32 y1) ∧ W.cell? ⟨sb, so + u1 * 3 + 2, none⟩ = some (.float .f32 z1) ∧ W.cell? ⟨sb, so + u2 * 3, none⟩ = some (.float .f32 x2) ∧ W.cell? ⟨sb, so + u2 * 3 + 1, none⟩ = some (.float .f32 y2) ∧ W.cell? ⟨sb, so + u2 * 3 + 2, none⟩ = some (.float .f32 z2)) := Lib.hid fun W hW => ⟨keep_cell hW n09, keep_cell hW e09, keep_cell hW e19, keep_cell hW d19, keep_cell hW d29, keep_cell hW d39, keep_cell hW g19, keep_cell hW g29, keep_cell hW g39⟩
            have hBd : Below v9.heap.size v9 v9.drew := below_dr (Below.refl _ _) 1
            clear hv9 HMA HEA HBA HZA HMP HC9 d1 d2 d3 g1 g2 g3 o0A za e0 e1 c0 c1 c2 c3 n0 o0 n1 hpe
            go_wp2_with fail
            go_upto_region 17 with fail
            go_cut [12] from 75 to 87 (fun u12 wx => ∃ pb a b c, u12 = .pointer (some ⟨pb, 0, none⟩) ∧ Hid (IsSp a b c (spAdd (pAt ps u1) (pAt ps u2))) ∧ Hid (OwnC wx pb #[.float .f32 a, .float .f32 b, .float .f32 c] 46) ∧ v9.heap.size ≤ pb ∧ Hid (Below v9.heap.size v9 wx))
            case first =>
              --[[
              go_region_held3 (fun W => W.cell? ⟨w.heap.size, 0, none⟩ = some (.slice (some ⟨sb, so, none⟩) ps.length sc) ∧ W.cell? ⟨pe, 0, none⟩ = some (.int .i64 (u1 : Nat)) ∧ W.cell? ⟨pe, 1, none⟩ = some (.int .i64 (u2 : Nat)) ∧ W.cell? ⟨sb, so + u1 * 3, none⟩ = some (.float .f32 x1) ∧ W.cell? ⟨sb, so + u1 * 3 + 1, none⟩ = some (.float .f32 y1) ∧ W.cell? ⟨sb, so + u1 * 3 + 2, none⟩ = some (.float .f32 z1) ∧ W.cell? ⟨sb, so + u2 * 3, none⟩ = some (.float .f32 x2) ∧ W.cell? ⟨sb, so + u2 * 3 + 1, none⟩ = some (.float .f32 y2) ∧ W.cell? ⟨sb, so + u2 * 3 + 2, none⟩ = some (.float .f32 z2)) (first | exact HKS.out _ hBk | exact HKS.out _ (hBk.alloc hBk.size _) | exact HKS.out _ (((hBk.setCell (Nat.le_refl _) _).setCell (Nat.le_refl _) _).setCell (Nat.le_refl _) _) | go_keep) ((go_at_call 30; (with_reducible refine (addB x1 y1 z1 x2 y2 z2 _ _ HPA.out HPB.out _).mono ?_); rintro e w8 ⟨⟨a, b, c, rfl, hab⟩, hb8⟩; have HAB := Lib.hid hab; first
                | (have hBk : Below v9.heap.size v9 w8 := hBd.trans hb8)
                | (have ho : OwnC w8 v9.heap.size #[.float .f32 0, .float .f32 0, .float .f32 0] 46 := (OwnC.below ((OwnC.new rfl).drewN 1) hb8 (by simp)); have hBk : Below v9.heap.size v9 w8 := (below_dr ((Below.refl v9.heap.size v9).alloc (Nat.le_refl _) _) 1).trans (hb8.mono (by simp)); have a0 := ho.cell 0; have a1 := ho.cell 1; have a2 := ho.cell 2; have b0 := ho.free 0; have b1 := ho.free 1; have b2 := ho.free 2; simp at a0 a1 a2; have HO8 := Lib.hid ho; clear ho)))
              all_goals (try go_wp2_with fail)
              all_goals go_meet
              all_goals first
                | exact ⟨_, a, b, c, rfl, HAB, Lib.hid (OwnC.new rfl), hBk.size, Lib.hid (hBk.alloc hBk.size _)⟩
                | exact ⟨_, a, b, c, rfl, HAB, Lib.hid ((((HO8.out.set 0 _).set 1 _).set 2 _).congr (by simp)), Nat.le_refl _, Lib.hid (((hBk.setCell (Nat.le_refl _) _).setCell (Nat.le_refl _) _).setCell (Nat.le_refl _) _)⟩
              --]]
            case rest =>
            obtain ⟨pb, xa, xb, xc, rfl, HSUM, HSB, hpb, HB10⟩ := hcut
            obtain ⟨v10, hv10⟩ : ∃ x : World, x = wc := ⟨_, rfl⟩
            rw [← hv10] at HSB HB10 ⊢
            have hpos : 0 < KT := by have := HKT.out; have := HKE.out; omega
            have HI10 := Lib.hid ((HI.out.map hpos HCR.out hMw (by omega) hbM).below HB10.out)
            have HM10 := Lib.hid (HMP9.out.below HB10.out HMP9.out.lt)
            have HE10 := Lib.hid (HE9.out.below HB10.out hpel)
            have z10 := HB10.out.size
            have hpbl := HSB.out.lt
            have e0 := HE10.out.cell 0
            have e1 := HE10.out.cell 1
            have e2 := HE10.out.cell 2
            have e3 := HE10.out.cell 3
            simp at e0 e1 e2 e3
            have HIB := Lib.hid (fun W => isBorder u1 u2 u3 G W)
            clear hv10 HI HCR HMP9 HE9 HB10 HKS hBd n09 d19 d29 d39 g19 g29 g39 e09 e19
            go_wp2_with fail
            refine (HIB.out _).mono ?_
            rintro e v11 ⟨rfl, hb11⟩
            have z11 := hb11.size
            have HI11 := Lib.hid (HI10.out.below hb11)
            have HM11 := Lib.hid (HM10.out.below hb11 HM10.out.lt)
            have HE11 := Lib.hid (HE10.out.below hb11 (by omega))
            have HS11 := Lib.hid (HSB.out.below hb11 hpbl)
            have o0 := HI11.out.own.cell 0
            have p0 := HS11.out.cell 0
            have p1 := HS11.out.cell 1
            have p2 := HS11.out.cell 2
            have e2 := HE11.out.cell 2
            have e3 := HE11.out.cell 3
            simp at o0 p0 p1 p2 e2 e3
            have hBe : Below v11.heap.size v11 v11.drew := below_dr (Below.refl _ _) 1
            have hpl : pb < v11.heap.size := by omega
            have hel : pe < v11.heap.size := by omega
            clear hb11 HI10 HM10 HE10 HSB e0 e1
            by_cases hGn : G < 0
            · have HQ : Hid (egP ps fs s = spMul (spAdd (pAt ps u1) (pAt ps u2)) (can .f32 1056964608)) := Lib.hid (by unfold egP; rw [← HG.out, if_pos hGn, HU1.out, HU2.out]; rfl)
              --[[
              go_wp2_with fail
              go_region_law (first
                | (go_simp; go_at_call 32; (with_reducible refine (timesB xa xb xc 1056964608 _ _ HSUM.out (F32.mk _) _).mono ?_); rintro e w6 ⟨⟨a, b, c, rfl, hab⟩, hb6⟩; have HAB := Lib.hid hab; have B6 : Below v11.heap.size v11 w6 := hBe.trans hb6; have o06 := keep_cell B6 o0; have o06a := keep_alloc (.cells #[.float .f32 a, .float .f32 b, .float .f32 c] 46) o06; have HRV : Hid (ORow0 (w6.alloc (.cells #[.float .f32 a, .float .f32 b, .float .f32 c] 46)) 46 3 (.slice (some ⟨bv, 0, none⟩) KT cv) KT cs) := Lib.hid (ORow0.below HI11.out.row (B6.alloc B6.size _)); have HB6 := Lib.hid B6; clear hab hb6 B6)
                | (refine step_app0 rfl _ _ _ rfl 46 (.agg #[.float .f32 0, .float .f32 0, .float .f32 0]) 3 12 Try.underlying24 infoSpot' rfl (by decide) (.slice (some ⟨bv, 0, none⟩) KT cv) KT cs rfl HRV.out ⟨w6.heap.size, 0, none⟩ 1 1 [.float .f32 a, .float .f32 b, .float .f32 c] rfl rfl (World.news_of_block (heap_alloc_new w6 _)) (by simp [Value.oneCell']) (by decide) (by omega) (by decide) ?_; intro b7 c7 w7 hr7 hb7 hl7 hg7; have HST := Lib.hid (HI11.out.step (rs := [egP ps fs s]) (by omega) (HB6.out.alloc HB6.out.size _) rfl hg7 hr7 hb7 (HI11.out.sp.snoc HI11.out.clen (by rw [HQ.out]; exact HAB.out))); have o17 := HST.out.own7.cell 0; have o17f := HST.out.own7.free 0; simp at o17; clear hr7 hb7 hg7))
              all_goals (try go_wp2_with fail)
              all_goals
                have hIN : Hid (SpI wb (w7.setCell ⟨ob, 0, none⟩ (.slice (some ⟨b7, 0, none⟩) (KT + 1) c7)) ob (.slice none 0 0) (.slice (some ⟨b7, 0, none⟩) (K + (t + 1)) c7) (K + (t + 1)) (rn2 ps fs (t + 1)) (cs ++ [.float .f32 a, .float .f32 b, .float .f32 c])) := Lib.hid (by
                  have e : K + (t + 1) = KT + 1 := by have := HKT.out; omega
                  rw [e, rn2_succ, ← HSE.out]; exact HST.out.i)
                have hMN : Hid (OMap (w7.setCell ⟨ob, 0, none⟩ (.slice (some ⟨b7, 0, none⟩) (KT + 1) c7)) M (2 * (t + 1)) (plM fs K (t + 1))) := Lib.hid (HM11.out.of_block (HST.out.kept M (by have := HM11.out.lt; omega) (by omega) (by simp [Value.ownBlock]; omega)))
                have hbn : ¬ b7 = M := by
                  have hl := HM11.out.lt
                  rcases HST.out.blk with h | h
                  · have : bv = b7 := by simpa [Value.ownBlock] using h
                    omega
                  · omega
                have hee : (K : Int) + ((t : Int) + 1) = (KT : Int) + 1 := by have := HKT.out; omega
                go_roundw
                all_goals first
                  | exact ⟨t + 1, b7, c7, _, by omega, by go_num, hIN, hMN, hbn⟩
                  | (simp [intOf]; omega)
              --]]
            · have hGp : ∃ u4 : Nat, G = (u4 : Int) ∧ u4 < fs.length := by
                rcases HGG.out with h | h
                · exact absurd h hGn
                · exact h
              obtain ⟨u4, rfl, hu4n⟩ := hGp
              have hms : SlP v11 mb (mb + 1) (some ⟨mb, 0, none⟩) (midsTo ps fs fs.length) := HMS.out.far (HI11.out.ch.far (by omega) (fun c h1 h2 e => by omega))
              obtain ⟨_, _, hsa, _, _, hcs⟩ := hms (by rw [midsTo_len]; omega)
              cases hsa
              obtain ⟨x3, y3, z3, d1, d2, d3, f1, f2, f3⟩ := hcs u3 (by rw [midsTo_len]; exact hu3n)
              obtain ⟨x4, y4, z4, g1, g2, g3, f4, f5, f6⟩ := hcs u4 (by rw [midsTo_len]; exact hu4n)
              rw [Nat.zero_add] at d1 d2 d3 g1 g2 g3
              have HP3 := Lib.hid (IsSp.of f1 f2 f3)
              have HP4 := Lib.hid (IsSp.of f4 f5 f6)
              have HQ : Hid (egP ps fs s = spMul (spAdd (spAdd (spAdd (pAt ps u1) (pAt ps u2)) (pAt (midsTo ps fs fs.length) u3)) (pAt (midsTo ps fs fs.length) u4)) (can .f32 1048576000)) := Lib.hid (by unfold egP; rw [← HG.out, if_neg hGn, HU1.out, HU2.out, HU3.out]; rfl)
              have v4 : (0 : Int) ≤ (u3 : Int) := by omega
              have v5 : (u3 : Int) < (fs.length : Int) := by omega
              have v6 : (0 : Int) ≤ (u4 : Int) := by omega
              have v7 : (u4 : Int) < (fs.length : Int) := by omega
              have hpee := HPE.out
              have q1 : ¬ pe = bv := by omega
              have q2 : ¬ pb = bv := by omega
              have q3 : ¬ mb = bv := by omega
              have q4 : ¬ pe = ob := by omega
              have q5 : ¬ pb = ob := by omega
              have q6 : ¬ mb = ob := by omega
              have hml : mb < v11.heap.size := by omega
              have HKS : Hid (∀ W : World, (∀ c, c < v11.heap.size → c ≠ ob → ¬ c = bv → W.heap[c]? = v11.heap[c]?) → W.cell? ⟨pe, 2, none⟩ = some (.int .i64 (u3 : Nat)) ∧ W.cell? ⟨pe, 3, none⟩ = some (.int .i64 (u4 : Nat)) ∧ W.cell? ⟨pb, 0, none⟩ = some (.float .f32 xa) ∧ W.cell? ⟨pb, 1, none⟩ = some (.float .f32 xb) ∧ W.cell? ⟨pb, 2, none⟩ = some (.float .f32 xc) ∧ W.cell? ⟨mb, u3 * 3, none⟩ = some (.float .f32 x3) ∧ W.cell? ⟨mb, u3 * 3 + 1, none⟩ = some (.float .f32 y3) ∧ W.cell? ⟨mb, u3 * 3 + 2, none⟩ = some (.float .f32 z3) ∧ W.cell? ⟨mb, u4 * 3, none⟩ = some (.float .f32 x4) ∧ W.cell? ⟨mb, u4 * 3 + 1, none⟩ = some (.float .f32 y4) ∧ W.cell? ⟨mb, u4 * 3 + 2, none⟩ = some (.float .f32 z4)) := Lib.hid fun W hW =>
                have k : ∀ {b o v}, b < v11.heap.size → b ≠ ob → ¬ b = bv → v11.cell? ⟨b, o, none⟩ = some v → W.cell? ⟨b, o, none⟩ = some v := fun h1 h2 h3 h => (World.cell?_of_block (w := v11) (a := ⟨_, _, none⟩) (hW _ h1 h2 h3)).trans h
                ⟨k hel q4 q1 e2, k hel q4 q1 e3, k hpl q5 q2 p0, k hpl q5 q2 p1, k hpl q5 q2 p2, k hml q6 q3 d1, k hml q6 q3 d2, k hml q6 q3 d3, k hml q6 q3 g1, k hml q6 q3 g2, k hml q6 q3 g3⟩
              have HKB : Hid (∀ W : World, Below v11.heap.size v11 W → W.cell? ⟨pe, 2, none⟩ = some (.int .i64 (u3 : Nat)) ∧ W.cell? ⟨pe, 3, none⟩ = some (.int .i64 (u4 : Nat)) ∧ W.cell? ⟨pb, 0, none⟩ = some (.float .f32 xa) ∧ W.cell? ⟨pb, 1, none⟩ = some (.float .f32 xb) ∧ W.cell? ⟨pb, 2, none⟩ = some (.float .f32 xc) ∧ W.cell? ⟨mb, u3 * 3, none⟩ = some (.float .f32 x3) ∧ W.cell? ⟨mb, u3 * 3 + 1, none⟩ = some (.float .f32 y3) ∧ W.cell? ⟨mb, u3 * 3 + 2, none⟩ = some (.float .f32 z3) ∧ W.cell? ⟨mb, u4 * 3, none⟩ = some (.float .f32 x4) ∧ W.cell? ⟨mb, u4 * 3 + 1, none⟩ = some (.float .f32 y4) ∧ W.cell? ⟨mb, u4 * 3 + 2, none⟩ = some (.float .f32 z4)) := Lib.hid fun W hW => HKS.out W fun c h1 _ _ => hW.block c h1
              clear hms hcs f1 f2 f3 f4 f5 f6 hpee
              --[[
              --R20[
              go_wp2_with fail
              have hS0 := HKB.out _ hBe
              refine wp_region_held_drew (S := fun W : World => W.cell? ⟨pe, 2, none⟩ = some (.int .i64 (u3 : Nat)) ∧ W.cell? ⟨pe, 3, none⟩ = some (.int .i64 (u4 : Nat)) ∧ W.cell? ⟨pb, 0, none⟩ = some (.float .f32 xa) ∧ W.cell? ⟨pb, 1, none⟩ = some (.float .f32 xb) ∧ W.cell? ⟨pb, 2, none⟩ = some (.float .f32 xc) ∧ W.cell? ⟨mb, u3 * 3, none⟩ = some (.float .f32 x3) ∧ W.cell? ⟨mb, u3 * 3 + 1, none⟩ = some (.float .f32 y3) ∧ W.cell? ⟨mb, u3 * 3 + 2, none⟩ = some (.float .f32 z3) ∧ W.cell? ⟨mb, u4 * 3, none⟩ = some (.float .f32 x4) ∧ W.cell? ⟨mb, u4 * 3 + 1, none⟩ = some (.float .f32 y4) ∧ W.cell? ⟨mb, u4 * 3 + 2, none⟩ = some (.float .f32 z4)) (by kernel_rfl) hS0 (fun _ => ?_)
              refine wpAnyH_take (i := 0) (v := ?v1) rfl (by kernel_rfl) (by kernel_rfl) (by kernel_rfl) (fun _ _ _ h => h) (Or.inl ⟨by rfl, ?y1⟩) hS0 ?r1
              case y1 => (intro w hSw; obtain ⟨hs1, hs2, hs3, hs4, hs5, hs6, hs7, hs8, hs9, hs10, hs11⟩ := hSw; go_simp <;> with_reducible rfl)
              try simp only [Act.put, List.setIfInBounds_toArray]
              refine wpAnyH_take (i := 2) (v := ?v2) rfl (by kernel_rfl) (by kernel_rfl) (by kernel_rfl) (fun _ _ _ h => h) (Or.inl ⟨by rfl, ?y2⟩) hS0 ?r2
              case y2 => (intro w hSw; obtain ⟨hs1, hs2, hs3, hs4, hs5, hs6, hs7, hs8, hs9, hs10, hs11⟩ := hSw; go_simp <;> with_reducible rfl)
              try simp only [Act.put]
              refine wpAnyH_take (i := 3) (v := ?v3) rfl (by kernel_rfl) (by kernel_rfl) (by kernel_rfl) (fun _ _ _ h => h) (Or.inl ⟨by rfl, ?y3⟩) hS0 ?r3
              case y3 => (intro w hSw; obtain ⟨hs1, hs2, hs3, hs4, hs5, hs6, hs7, hs8, hs9, hs10, hs11⟩ := hSw; go_simp <;> with_reducible rfl)
              try simp only [Act.put]
              refine wpAnyH_take (i := 4) (v := ?v4) rfl (by kernel_rfl) (by kernel_rfl) (by kernel_rfl) (fun _ _ _ h => h) (Or.inl ⟨by rfl, ?y4⟩) hS0 ?r4
              case y4 => (intro w hSw; obtain ⟨hs1, hs2, hs3, hs4, hs5, hs6, hs7, hs8, hs9, hs10, hs11⟩ := hSw; go_simp <;> with_reducible rfl)
              try simp only [Act.put]
              refine wpAnyH_take (i := 5) (v := ?v5) rfl (by kernel_rfl) (by kernel_rfl) (by kernel_rfl) (fun _ _ _ h => h) (Or.inl ⟨by rfl, ?y5⟩) hS0 ?r5
              case y5 => (intro w hSw; obtain ⟨hs1, hs2, hs3, hs4, hs5, hs6, hs7, hs8, hs9, hs10, hs11⟩ := hSw; go_simp <;> with_reducible rfl)
              try simp only [Act.put]
              refine wpAnyH_take (i := 6) (v := ?v6) rfl (by kernel_rfl) (by kernel_rfl) (by kernel_rfl) (fun _ _ _ h => h) (Or.inl ⟨by rfl, ?y6⟩) hS0 ?r6
              case y6 => (intro w hSw; obtain ⟨hs1, hs2, hs3, hs4, hs5, hs6, hs7, hs8, hs9, hs10, hs11⟩ := hSw; go_simp <;> with_reducible rfl)
              try simp only [Act.put]
              refine wpAnyH_take (i := 7) (v := ?v7) rfl (by kernel_rfl) (by kernel_rfl) (by kernel_rfl) (fun _ _ _ h => h) (Or.inl ⟨by rfl, ?y7⟩) hS0 ?r7
              case y7 => (intro w hSw; obtain ⟨hs1, hs2, hs3, hs4, hs5, hs6, hs7, hs8, hs9, hs10, hs11⟩ := hSw; go_simp <;> with_reducible rfl)
              try simp only [Act.put]
              refine wpAnyH_take (i := 9) (v := ?v8) rfl (by kernel_rfl) (by kernel_rfl) (by kernel_rfl) (fun _ _ _ h => h) (Or.inl ⟨by rfl, ?y8⟩) hS0 ?r8
              case y8 => (intro w hSw; obtain ⟨hs1, hs2, hs3, hs4, hs5, hs6, hs7, hs8, hs9, hs10, hs11⟩ := hSw; go_simp <;> with_reducible rfl)
              try simp only [Act.put]
              refine wpAnyH_take (i := 10) (v := ?v9) rfl (by kernel_rfl) (by kernel_rfl) (by kernel_rfl) (fun _ _ _ h => h) (Or.inl ⟨by rfl, ?y9⟩) hS0 ?r9
              case y9 => (intro w hSw; obtain ⟨hs1, hs2, hs3, hs4, hs5, hs6, hs7, hs8, hs9, hs10, hs11⟩ := hSw; go_simp <;> with_reducible rfl)
              try simp only [Act.put]
              refine wpAnyH_take (i := 11) (v := ?v10) rfl (by kernel_rfl) (by kernel_rfl) (by kernel_rfl) (fun _ _ _ h => h) (Or.inl ⟨by rfl, ?y10⟩) hS0 ?r10
              case y10 => (intro w hSw; obtain ⟨hs1, hs2, hs3, hs4, hs5, hs6, hs7, hs8, hs9, hs10, hs11⟩ := hSw; go_simp <;> with_reducible rfl)
              try simp only [Act.put]
              refine wpAnyH_take (i := 12) (v := ?v11) rfl (by kernel_rfl) (by kernel_rfl) (by kernel_rfl) (fun _ _ _ h => h) (Or.inl ⟨by rfl, ?y11⟩) hS0 ?r11
              case y11 => (intro w hSw; obtain ⟨hs1, hs2, hs3, hs4, hs5, hs6, hs7, hs8, hs9, hs10, hs11⟩ := hSw; go_simp <;> with_reducible rfl)
              try simp only [Act.put]
              refine wpAnyH_take (i := 13) (v := ?v12) rfl (by kernel_rfl) (by kernel_rfl) (by kernel_rfl) (fun _ _ _ h => h) (Or.inl ⟨by rfl, ?y12⟩) hS0 ?r12
              case y12 => (intro w hSw; obtain ⟨hs1, hs2, hs3, hs4, hs5, hs6, hs7, hs8, hs9, hs10, hs11⟩ := hSw; go_simp <;> with_reducible rfl)
              try simp only [Act.put]
              refine wpAnyH_ready (rs := [1, 8]) (by kernel_rfl) (by simp) ?_
              refine AllReadyH.cons rfl (fun K hK => ?_) (AllReadyH.cons rfl (fun K hK => ?_) AllReadyH.nil)
              · go_simp
                refine hK.out _ _ hS0 (fun _ => ?_)
                clear hK K
                try simp only [Act.put, List.setIfInBounds_toArray, List.set_cons_zero, List.set_cons_succ]
                refine wpAnyH_ready (rs := [8]) (by kernel_rfl) (by simp) ?_
                refine AllReadyH.cons rfl (fun K hK => ?_) AllReadyH.nil
                go_simp
                (with_reducible refine (addB xa xb xc x3 y3 z3 _ _ HSUM.out HP3.out _).mono ?_)
                rintro e w4 ⟨⟨a4, b4, c4, rfl, hab⟩, hb6⟩
                have HAB4 := Lib.hid hab
                have hB4 : Below v11.heap.size v11 w4 := hBe.trans hb6
                have o04 := keep_cell hB4 o0
                have hS4 := HKB.out _ hB4
                clear hab hb6
                refine hK.out _ _ hS4 (fun _ => ?_)
                clear hK K
                try simp only [Act.put, List.setIfInBounds_toArray, List.set_cons_zero, List.set_cons_succ]
                refine wpAnyH_ready (rs := [14]) (by kernel_rfl) (by simp) ?_
                refine AllReadyH.cons rfl (fun K hK => ?_) AllReadyH.nil
                go_simp
                (with_reducible refine (addB a4 b4 c4 x4 y4 z4 _ _ HAB4.out HP4.out _).mono ?_)
                rintro e w5 ⟨⟨a5, b5, c5, rfl, hab⟩, hb6⟩
                have HAB5 := Lib.hid hab
                have hB5 : Below v11.heap.size v11 w5 := hB4.trans (hb6.mono hB4.size)
                have o05 := keep_cell hB5 o0
                have hS5 := HKB.out _ hB5
                clear hab hb6
                refine hK.out _ _ hS5 (fun _ => ?_)
                clear hK K
                try simp only [Act.put, List.setIfInBounds_toArray, List.set_cons_zero, List.set_cons_succ]
                refine wpAnyH_ready (rs := [15]) (by kernel_rfl) (by simp) ?_
                refine AllReadyH.cons rfl (fun K hK => ?_) AllReadyH.nil
                go_simp
                (with_reducible refine (timesB a5 b5 c5 1048576000 _ _ HAB5.out (F32.mk _) _).mono ?_)
                rintro e w6 ⟨⟨a, b, c, rfl, hab⟩, hb6⟩
                have HAB := Lib.hid hab
                have hB6 : Below v11.heap.size v11 w6 := hB5.trans (hb6.mono hB5.size)
                have o06 := keep_cell hB6 o0
                have o06a := keep_alloc (.cells #[.float .f32 a, .float .f32 b, .float .f32 c] 46) o06
                have HRV : Hid (ORow0 (w6.alloc (.cells #[.float .f32 a, .float .f32 b, .float .f32 c] 46)) 46 3 (.slice (some ⟨bv, 0, none⟩) KT cv) KT cs) := Lib.hid (ORow0.below HI11.out.row (hB6.alloc hB6.size _))
                have hS6 := HKB.out _ hB6
                have hS6a := HKB.out _ (hB6.alloc hB6.size (.cells #[.float .f32 a, .float .f32 b, .float .f32 c] 46))
                have HB6 := Lib.hid hB6
                clear hab hb6
                refine hK.out _ _ hS6 (fun _ => ?_)
                clear hK K
                try simp only [Act.put, List.setIfInBounds_toArray, List.set_cons_zero, List.set_cons_succ]
                refine wpAnyH_ready (rs := [16]) (by kernel_rfl) (by simp) ?_
                refine AllReadyH.cons rfl (fun K hK => ?_) AllReadyH.nil
                go_simp
                refine hK.out _ _ hS6a (fun _ => ?_)
                clear hK K
                try simp only [Act.put, List.setIfInBounds_toArray, List.set_cons_zero, List.set_cons_succ]
                refine wpAnyH_ready (rs := [17]) (by kernel_rfl) (by simp) ?_
                refine AllReadyH.cons rfl (fun K hK => ?_) AllReadyH.nil
                refine step_app0 rfl _ _ _ rfl 46 (.agg #[.float .f32 0, .float .f32 0, .float .f32 0]) 3 12 Try.underlying24 infoSpot' rfl (by decide) (.slice (some ⟨bv, 0, none⟩) KT cv) KT cs rfl HRV.out ⟨w6.heap.size, 0, none⟩ 1 1 [.float .f32 a, .float .f32 b, .float .f32 c] rfl rfl (World.news_of_block (heap_alloc_new w6 _)) (by simp [Value.oneCell']) (by decide) (by omega) (by decide) ?_
                intro b7 c7 w7 hr7 hb7 hl7 hg7
                have HST := Lib.hid (HI11.out.step (rs := [egP ps fs s]) (by omega) (HB6.out.alloc HB6.out.size _) rfl hg7 hr7 hb7 (HI11.out.sp.snoc HI11.out.clen (by rw [HQ.out]; exact HAB.out)))
                have o17 := HST.out.own7.cell 0
                have o17f := HST.out.own7.free 0
                simp at o17
                have hS7 := HKS.out w7 (fun c h1 h2 h3 => HST.out.kept7 c h1 (by simp [Value.ownBlock]; omega))
                clear hr7 hb7 hg7
                refine hK.out _ _ hS7 (fun _ => ?_)
                clear hK K
                try simp only [Act.put, List.setIfInBounds_toArray]
                refine wpAnyH_take (i := 18) (v := ?v13) rfl (by kernel_rfl) (by kernel_rfl) (by kernel_rfl) (fun _ _ _ h => h) (Or.inl ⟨by rfl, ?y13⟩) hS7 ?r13
                case y13 => (intro w hSw; obtain ⟨hs1, hs2, hs3, hs4, hs5, hs6, hs7, hs8, hs9, hs10, hs11⟩ := hSw; go_simp <;> with_reducible rfl)
                try simp only [Act.put]
                refine wpAnyH_ready (rs := [19]) (by kernel_rfl) (by simp) ?_
                refine AllReadyH.cons rfl (fun K hK => ?_) AllReadyH.nil
                go_simp
                refine hK.out _ _ (HKS.out _ (fun c h1 h2 h3 => HST.out.kept c h1 h2 (by simp [Value.ownBlock]; omega))) (fun _ => ?_)
                clear hK K
                try simp only [Act.put, List.setIfInBounds_toArray, List.set_cons_zero, List.set_cons_succ]
                refine wpAnyH_done (by kernel_rfl) ?_ _
                go_wp2_with fail
                have hIN : Hid (SpI wb (w7.setCell ⟨ob, 0, none⟩ (.slice (some ⟨b7, 0, none⟩) (KT + 1) c7)) ob (.slice none 0 0) (.slice (some ⟨b7, 0, none⟩) (K + (t + 1)) c7) (K + (t + 1)) (rn2 ps fs (t + 1)) (cs ++ [.float .f32 a, .float .f32 b, .float .f32 c])) := Lib.hid (by
                  have e : K + (t + 1) = KT + 1 := by have := HKT.out; omega
                  rw [e, rn2_succ, ← HSE.out]; exact HST.out.i)
                have hMN : Hid (OMap (w7.setCell ⟨ob, 0, none⟩ (.slice (some ⟨b7, 0, none⟩) (KT + 1) c7)) M (2 * (t + 1)) (plM fs K (t + 1))) := Lib.hid (HM11.out.of_block (HST.out.kept M (by have := HM11.out.lt; omega) (by omega) (by simp [Value.ownBlock]; omega)))
                have hbn : ¬ b7 = M := by
                  have hl := HM11.out.lt
                  rcases HST.out.blk with h | h
                  · have : bv = b7 := by simpa [Value.ownBlock] using h
                    omega
                  · omega
                have hee : (K : Int) + ((t : Int) + 1) = (KT : Int) + 1 := by have := HKT.out; omega
                go_roundw
                all_goals first
                  | exact ⟨t + 1, b7, c7, _, by omega, by go_num, hIN, hMN, hbn⟩
                  | (simp [intOf]; omega)
              · go_simp
                (with_reducible refine (addB xa xb xc x3 y3 z3 _ _ HSUM.out HP3.out _).mono ?_)
                rintro e w4 ⟨⟨a4, b4, c4, rfl, hab⟩, hb6⟩
                have HAB4 := Lib.hid hab
                have hB4 : Below v11.heap.size v11 w4 := hBe.trans hb6
                have o04 := keep_cell hB4 o0
                have hS4 := HKB.out _ hB4
                clear hab hb6
                refine hK.out _ _ hS4 (fun _ => ?_)
                clear hK K
                try simp only [Act.put, List.setIfInBounds_toArray, List.set_cons_zero, List.set_cons_succ]
                refine wpAnyH_ready (rs := [1, 14]) (by kernel_rfl) (by simp) ?_
                refine AllReadyH.cons rfl (fun K hK => ?_) (AllReadyH.cons rfl (fun K hK => ?_) AllReadyH.nil)
                · go_simp
                  refine hK.out _ _ hS4 (fun _ => ?_)
                  clear hK K
                  try simp only [Act.put, List.setIfInBounds_toArray, List.set_cons_zero, List.set_cons_succ]
                  refine wpAnyH_ready (rs := [14]) (by kernel_rfl) (by simp) ?_
                  refine AllReadyH.cons rfl (fun K hK => ?_) AllReadyH.nil
                  go_simp
                  (with_reducible refine (addB a4 b4 c4 x4 y4 z4 _ _ HAB4.out HP4.out _).mono ?_)
                  rintro e w5 ⟨⟨a5, b5, c5, rfl, hab⟩, hb6⟩
                  have HAB5 := Lib.hid hab
                  have hB5 : Below v11.heap.size v11 w5 := hB4.trans (hb6.mono hB4.size)
                  have o05 := keep_cell hB5 o0
                  have hS5 := HKB.out _ hB5
                  clear hab hb6
                  refine hK.out _ _ hS5 (fun _ => ?_)
                  clear hK K
                  try simp only [Act.put, List.setIfInBounds_toArray, List.set_cons_zero, List.set_cons_succ]
                  refine wpAnyH_ready (rs := [15]) (by kernel_rfl) (by simp) ?_
                  refine AllReadyH.cons rfl (fun K hK => ?_) AllReadyH.nil
                  go_simp
                  (with_reducible refine (timesB a5 b5 c5 1048576000 _ _ HAB5.out (F32.mk _) _).mono ?_)
                  rintro e w6 ⟨⟨a, b, c, rfl, hab⟩, hb6⟩
                  have HAB := Lib.hid hab
                  have hB6 : Below v11.heap.size v11 w6 := hB5.trans (hb6.mono hB5.size)
                  have o06 := keep_cell hB6 o0
                  have o06a := keep_alloc (.cells #[.float .f32 a, .float .f32 b, .float .f32 c] 46) o06
                  have HRV : Hid (ORow0 (w6.alloc (.cells #[.float .f32 a, .float .f32 b, .float .f32 c] 46)) 46 3 (.slice (some ⟨bv, 0, none⟩) KT cv) KT cs) := Lib.hid (ORow0.below HI11.out.row (hB6.alloc hB6.size _))
                  have hS6 := HKB.out _ hB6
                  have hS6a := HKB.out _ (hB6.alloc hB6.size (.cells #[.float .f32 a, .float .f32 b, .float .f32 c] 46))
                  have HB6 := Lib.hid hB6
                  clear hab hb6
                  refine hK.out _ _ hS6 (fun _ => ?_)
                  clear hK K
                  try simp only [Act.put, List.setIfInBounds_toArray, List.set_cons_zero, List.set_cons_succ]
                  refine wpAnyH_ready (rs := [16]) (by kernel_rfl) (by simp) ?_
                  refine AllReadyH.cons rfl (fun K hK => ?_) AllReadyH.nil
                  go_simp
                  refine hK.out _ _ hS6a (fun _ => ?_)
                  clear hK K
                  try simp only [Act.put, List.setIfInBounds_toArray, List.set_cons_zero, List.set_cons_succ]
                  refine wpAnyH_ready (rs := [17]) (by kernel_rfl) (by simp) ?_
                  refine AllReadyH.cons rfl (fun K hK => ?_) AllReadyH.nil
                  refine step_app0 rfl _ _ _ rfl 46 (.agg #[.float .f32 0, .float .f32 0, .float .f32 0]) 3 12 Try.underlying24 infoSpot' rfl (by decide) (.slice (some ⟨bv, 0, none⟩) KT cv) KT cs rfl HRV.out ⟨w6.heap.size, 0, none⟩ 1 1 [.float .f32 a, .float .f32 b, .float .f32 c] rfl rfl (World.news_of_block (heap_alloc_new w6 _)) (by simp [Value.oneCell']) (by decide) (by omega) (by decide) ?_
                  intro b7 c7 w7 hr7 hb7 hl7 hg7
                  have HST := Lib.hid (HI11.out.step (rs := [egP ps fs s]) (by omega) (HB6.out.alloc HB6.out.size _) rfl hg7 hr7 hb7 (HI11.out.sp.snoc HI11.out.clen (by rw [HQ.out]; exact HAB.out)))
                  have o17 := HST.out.own7.cell 0
                  have o17f := HST.out.own7.free 0
                  simp at o17
                  have hS7 := HKS.out w7 (fun c h1 h2 h3 => HST.out.kept7 c h1 (by simp [Value.ownBlock]; omega))
                  clear hr7 hb7 hg7
                  refine hK.out _ _ hS7 (fun _ => ?_)
                  clear hK K
                  try simp only [Act.put, List.setIfInBounds_toArray]
                  refine wpAnyH_take (i := 18) (v := ?v14) rfl (by kernel_rfl) (by kernel_rfl) (by kernel_rfl) (fun _ _ _ h => h) (Or.inl ⟨by rfl, ?y14⟩) hS7 ?r14
                  case y14 => (intro w hSw; obtain ⟨hs1, hs2, hs3, hs4, hs5, hs6, hs7, hs8, hs9, hs10, hs11⟩ := hSw; go_simp <;> with_reducible rfl)
                  try simp only [Act.put]
                  refine wpAnyH_ready (rs := [19]) (by kernel_rfl) (by simp) ?_
                  refine AllReadyH.cons rfl (fun K hK => ?_) AllReadyH.nil
                  go_simp
                  refine hK.out _ _ (HKS.out _ (fun c h1 h2 h3 => HST.out.kept c h1 h2 (by simp [Value.ownBlock]; omega))) (fun _ => ?_)
                  clear hK K
                  try simp only [Act.put, List.setIfInBounds_toArray, List.set_cons_zero, List.set_cons_succ]
                  refine wpAnyH_done (by kernel_rfl) ?_ _
                  go_wp2_with fail
                  have hIN : Hid (SpI wb (w7.setCell ⟨ob, 0, none⟩ (.slice (some ⟨b7, 0, none⟩) (KT + 1) c7)) ob (.slice none 0 0) (.slice (some ⟨b7, 0, none⟩) (K + (t + 1)) c7) (K + (t + 1)) (rn2 ps fs (t + 1)) (cs ++ [.float .f32 a, .float .f32 b, .float .f32 c])) := Lib.hid (by
                    have e : K + (t + 1) = KT + 1 := by have := HKT.out; omega
                    rw [e, rn2_succ, ← HSE.out]; exact HST.out.i)
                  have hMN : Hid (OMap (w7.setCell ⟨ob, 0, none⟩ (.slice (some ⟨b7, 0, none⟩) (KT + 1) c7)) M (2 * (t + 1)) (plM fs K (t + 1))) := Lib.hid (HM11.out.of_block (HST.out.kept M (by have := HM11.out.lt; omega) (by omega) (by simp [Value.ownBlock]; omega)))
                  have hbn : ¬ b7 = M := by
                    have hl := HM11.out.lt
                    rcases HST.out.blk with h | h
                    · have : bv = b7 := by simpa [Value.ownBlock] using h
                      omega
                    · omega
                  have hee : (K : Int) + ((t : Int) + 1) = (KT : Int) + 1 := by have := HKT.out; omega
                  go_roundw
                  all_goals first
                    | exact ⟨t + 1, b7, c7, _, by omega, by go_num, hIN, hMN, hbn⟩
                    | (simp [intOf]; omega)
                · go_simp
                  (with_reducible refine (addB a4 b4 c4 x4 y4 z4 _ _ HAB4.out HP4.out _).mono ?_)
                  rintro e w5 ⟨⟨a5, b5, c5, rfl, hab⟩, hb6⟩
                  have HAB5 := Lib.hid hab
                  have hB5 : Below v11.heap.size v11 w5 := hB4.trans (hb6.mono hB4.size)
                  have o05 := keep_cell hB5 o0
                  have hS5 := HKB.out _ hB5
                  clear hab hb6
                  refine hK.out _ _ hS5 (fun _ => ?_)
                  clear hK K
                  try simp only [Act.put, List.setIfInBounds_toArray, List.set_cons_zero, List.set_cons_succ]
                  refine wpAnyH_ready (rs := [1, 15]) (by kernel_rfl) (by simp) ?_
                  refine AllReadyH.cons rfl (fun K hK => ?_) (AllReadyH.cons rfl (fun K hK => ?_) AllReadyH.nil)
                  · go_simp
                    refine hK.out _ _ hS5 (fun _ => ?_)
                    clear hK K
                    try simp only [Act.put, List.setIfInBounds_toArray, List.set_cons_zero, List.set_cons_succ]
                    refine wpAnyH_ready (rs := [15]) (by kernel_rfl) (by simp) ?_
                    refine AllReadyH.cons rfl (fun K hK => ?_) AllReadyH.nil
                    go_simp
                    (with_reducible refine (timesB a5 b5 c5 1048576000 _ _ HAB5.out (F32.mk _) _).mono ?_)
                    rintro e w6 ⟨⟨a, b, c, rfl, hab⟩, hb6⟩
                    have HAB := Lib.hid hab
                    have hB6 : Below v11.heap.size v11 w6 := hB5.trans (hb6.mono hB5.size)
                    have o06 := keep_cell hB6 o0
                    have o06a := keep_alloc (.cells #[.float .f32 a, .float .f32 b, .float .f32 c] 46) o06
                    have HRV : Hid (ORow0 (w6.alloc (.cells #[.float .f32 a, .float .f32 b, .float .f32 c] 46)) 46 3 (.slice (some ⟨bv, 0, none⟩) KT cv) KT cs) := Lib.hid (ORow0.below HI11.out.row (hB6.alloc hB6.size _))
                    have hS6 := HKB.out _ hB6
                    have hS6a := HKB.out _ (hB6.alloc hB6.size (.cells #[.float .f32 a, .float .f32 b, .float .f32 c] 46))
                    have HB6 := Lib.hid hB6
                    clear hab hb6
                    refine hK.out _ _ hS6 (fun _ => ?_)
                    clear hK K
                    try simp only [Act.put, List.setIfInBounds_toArray, List.set_cons_zero, List.set_cons_succ]
                    refine wpAnyH_ready (rs := [16]) (by kernel_rfl) (by simp) ?_
                    refine AllReadyH.cons rfl (fun K hK => ?_) AllReadyH.nil
                    go_simp
                    refine hK.out _ _ hS6a (fun _ => ?_)
                    clear hK K
                    try simp only [Act.put, List.setIfInBounds_toArray, List.set_cons_zero, List.set_cons_succ]
                    refine wpAnyH_ready (rs := [17]) (by kernel_rfl) (by simp) ?_
                    refine AllReadyH.cons rfl (fun K hK => ?_) AllReadyH.nil
                    refine step_app0 rfl _ _ _ rfl 46 (.agg #[.float .f32 0, .float .f32 0, .float .f32 0]) 3 12 Try.underlying24 infoSpot' rfl (by decide) (.slice (some ⟨bv, 0, none⟩) KT cv) KT cs rfl HRV.out ⟨w6.heap.size, 0, none⟩ 1 1 [.float .f32 a, .float .f32 b, .float .f32 c] rfl rfl (World.news_of_block (heap_alloc_new w6 _)) (by simp [Value.oneCell']) (by decide) (by omega) (by decide) ?_
                    intro b7 c7 w7 hr7 hb7 hl7 hg7
                    have HST := Lib.hid (HI11.out.step (rs := [egP ps fs s]) (by omega) (HB6.out.alloc HB6.out.size _) rfl hg7 hr7 hb7 (HI11.out.sp.snoc HI11.out.clen (by rw [HQ.out]; exact HAB.out)))
                    have o17 := HST.out.own7.cell 0
                    have o17f := HST.out.own7.free 0
                    simp at o17
                    have hS7 := HKS.out w7 (fun c h1 h2 h3 => HST.out.kept7 c h1 (by simp [Value.ownBlock]; omega))
                    clear hr7 hb7 hg7
                    refine hK.out _ _ hS7 (fun _ => ?_)
                    clear hK K
                    try simp only [Act.put, List.setIfInBounds_toArray]
                    refine wpAnyH_take (i := 18) (v := ?v15) rfl (by kernel_rfl) (by kernel_rfl) (by kernel_rfl) (fun _ _ _ h => h) (Or.inl ⟨by rfl, ?y15⟩) hS7 ?r15
                    case y15 => (intro w hSw; obtain ⟨hs1, hs2, hs3, hs4, hs5, hs6, hs7, hs8, hs9, hs10, hs11⟩ := hSw; go_simp <;> with_reducible rfl)
                    try simp only [Act.put]
                    refine wpAnyH_ready (rs := [19]) (by kernel_rfl) (by simp) ?_
                    refine AllReadyH.cons rfl (fun K hK => ?_) AllReadyH.nil
                    go_simp
                    refine hK.out _ _ (HKS.out _ (fun c h1 h2 h3 => HST.out.kept c h1 h2 (by simp [Value.ownBlock]; omega))) (fun _ => ?_)
                    clear hK K
                    try simp only [Act.put, List.setIfInBounds_toArray, List.set_cons_zero, List.set_cons_succ]
                    refine wpAnyH_done (by kernel_rfl) ?_ _
                    go_wp2_with fail
                    have hIN : Hid (SpI wb (w7.setCell ⟨ob, 0, none⟩ (.slice (some ⟨b7, 0, none⟩) (KT + 1) c7)) ob (.slice none 0 0) (.slice (some ⟨b7, 0, none⟩) (K + (t + 1)) c7) (K + (t + 1)) (rn2 ps fs (t + 1)) (cs ++ [.float .f32 a, .float .f32 b, .float .f32 c])) := Lib.hid (by
                      have e : K + (t + 1) = KT + 1 := by have := HKT.out; omega
                      rw [e, rn2_succ, ← HSE.out]; exact HST.out.i)
                    have hMN : Hid (OMap (w7.setCell ⟨ob, 0, none⟩ (.slice (some ⟨b7, 0, none⟩) (KT + 1) c7)) M (2 * (t + 1)) (plM fs K (t + 1))) := Lib.hid (HM11.out.of_block (HST.out.kept M (by have := HM11.out.lt; omega) (by omega) (by simp [Value.ownBlock]; omega)))
                    have hbn : ¬ b7 = M := by
                      have hl := HM11.out.lt
                      rcases HST.out.blk with h | h
                      · have : bv = b7 := by simpa [Value.ownBlock] using h
                        omega
                      · omega
                    have hee : (K : Int) + ((t : Int) + 1) = (KT : Int) + 1 := by have := HKT.out; omega
                    go_roundw
                    all_goals first
                      | exact ⟨t + 1, b7, c7, _, by omega, by go_num, hIN, hMN, hbn⟩
                      | (simp [intOf]; omega)
                  · go_simp
                    (with_reducible refine (timesB a5 b5 c5 1048576000 _ _ HAB5.out (F32.mk _) _).mono ?_)
                    rintro e w6 ⟨⟨a, b, c, rfl, hab⟩, hb6⟩
                    have HAB := Lib.hid hab
                    have hB6 : Below v11.heap.size v11 w6 := hB5.trans (hb6.mono hB5.size)
                    have o06 := keep_cell hB6 o0
                    have o06a := keep_alloc (.cells #[.float .f32 a, .float .f32 b, .float .f32 c] 46) o06
                    have HRV : Hid (ORow0 (w6.alloc (.cells #[.float .f32 a, .float .f32 b, .float .f32 c] 46)) 46 3 (.slice (some ⟨bv, 0, none⟩) KT cv) KT cs) := Lib.hid (ORow0.below HI11.out.row (hB6.alloc hB6.size _))
                    have hS6 := HKB.out _ hB6
                    have hS6a := HKB.out _ (hB6.alloc hB6.size (.cells #[.float .f32 a, .float .f32 b, .float .f32 c] 46))
                    have HB6 := Lib.hid hB6
                    clear hab hb6
                    refine hK.out _ _ hS6 (fun _ => ?_)
                    clear hK K
                    try simp only [Act.put, List.setIfInBounds_toArray, List.set_cons_zero, List.set_cons_succ]
                    refine wpAnyH_ready (rs := [1, 16]) (by kernel_rfl) (by simp) ?_
                    refine AllReadyH.cons rfl (fun K hK => ?_) (AllReadyH.cons rfl (fun K hK => ?_) AllReadyH.nil)
                    · go_simp
                      refine hK.out _ _ hS6 (fun _ => ?_)
                      clear hK K
                      try simp only [Act.put, List.setIfInBounds_toArray, List.set_cons_zero, List.set_cons_succ]
                      refine wpAnyH_ready (rs := [16]) (by kernel_rfl) (by simp) ?_
                      refine AllReadyH.cons rfl (fun K hK => ?_) AllReadyH.nil
                      go_simp
                      refine hK.out _ _ hS6a (fun _ => ?_)
                      clear hK K
                      try simp only [Act.put, List.setIfInBounds_toArray, List.set_cons_zero, List.set_cons_succ]
                      refine wpAnyH_ready (rs := [17]) (by kernel_rfl) (by simp) ?_
                      refine AllReadyH.cons rfl (fun K hK => ?_) AllReadyH.nil
                      refine step_app0 rfl _ _ _ rfl 46 (.agg #[.float .f32 0, .float .f32 0, .float .f32 0]) 3 12 Try.underlying24 infoSpot' rfl (by decide) (.slice (some ⟨bv, 0, none⟩) KT cv) KT cs rfl HRV.out ⟨w6.heap.size, 0, none⟩ 1 1 [.float .f32 a, .float .f32 b, .float .f32 c] rfl rfl (World.news_of_block (heap_alloc_new w6 _)) (by simp [Value.oneCell']) (by decide) (by omega) (by decide) ?_
                      intro b7 c7 w7 hr7 hb7 hl7 hg7
                      have HST := Lib.hid (HI11.out.step (rs := [egP ps fs s]) (by omega) (HB6.out.alloc HB6.out.size _) rfl hg7 hr7 hb7 (HI11.out.sp.snoc HI11.out.clen (by rw [HQ.out]; exact HAB.out)))
                      have o17 := HST.out.own7.cell 0
                      have o17f := HST.out.own7.free 0
                      simp at o17
                      have hS7 := HKS.out w7 (fun c h1 h2 h3 => HST.out.kept7 c h1 (by simp [Value.ownBlock]; omega))
                      clear hr7 hb7 hg7
                      refine hK.out _ _ hS7 (fun _ => ?_)
                      clear hK K
                      try simp only [Act.put, List.setIfInBounds_toArray]
                      refine wpAnyH_take (i := 18) (v := ?v16) rfl (by kernel_rfl) (by kernel_rfl) (by kernel_rfl) (fun _ _ _ h => h) (Or.inl ⟨by rfl, ?y16⟩) hS7 ?r16
                      case y16 => (intro w hSw; obtain ⟨hs1, hs2, hs3, hs4, hs5, hs6, hs7, hs8, hs9, hs10, hs11⟩ := hSw; go_simp <;> with_reducible rfl)
                      try simp only [Act.put]
                      refine wpAnyH_ready (rs := [19]) (by kernel_rfl) (by simp) ?_
                      refine AllReadyH.cons rfl (fun K hK => ?_) AllReadyH.nil
                      go_simp
                      refine hK.out _ _ (HKS.out _ (fun c h1 h2 h3 => HST.out.kept c h1 h2 (by simp [Value.ownBlock]; omega))) (fun _ => ?_)
                      clear hK K
                      try simp only [Act.put, List.setIfInBounds_toArray, List.set_cons_zero, List.set_cons_succ]
                      refine wpAnyH_done (by kernel_rfl) ?_ _
                      go_wp2_with fail
                      have hIN : Hid (SpI wb (w7.setCell ⟨ob, 0, none⟩ (.slice (some ⟨b7, 0, none⟩) (KT + 1) c7)) ob (.slice none 0 0) (.slice (some ⟨b7, 0, none⟩) (K + (t + 1)) c7) (K + (t + 1)) (rn2 ps fs (t + 1)) (cs ++ [.float .f32 a, .float .f32 b, .float .f32 c])) := Lib.hid (by
                        have e : K + (t + 1) = KT + 1 := by have := HKT.out; omega
                        rw [e, rn2_succ, ← HSE.out]; exact HST.out.i)
                      have hMN : Hid (OMap (w7.setCell ⟨ob, 0, none⟩ (.slice (some ⟨b7, 0, none⟩) (KT + 1) c7)) M (2 * (t + 1)) (plM fs K (t + 1))) := Lib.hid (HM11.out.of_block (HST.out.kept M (by have := HM11.out.lt; omega) (by omega) (by simp [Value.ownBlock]; omega)))
                      have hbn : ¬ b7 = M := by
                        have hl := HM11.out.lt
                        rcases HST.out.blk with h | h
                        · have : bv = b7 := by simpa [Value.ownBlock] using h
                          omega
                        · omega
                      have hee : (K : Int) + ((t : Int) + 1) = (KT : Int) + 1 := by have := HKT.out; omega
                      go_roundw
                      all_goals first
                        | exact ⟨t + 1, b7, c7, _, by omega, by go_num, hIN, hMN, hbn⟩
                        | (simp [intOf]; omega)
                    · go_simp
                      refine hK.out _ _ hS6a (fun _ => ?_)
                      clear hK K
                      try simp only [Act.put, List.setIfInBounds_toArray, List.set_cons_zero, List.set_cons_succ]
                      refine wpAnyH_ready (rs := [1]) (by kernel_rfl) (by simp) ?_
                      refine AllReadyH.cons rfl (fun K hK => ?_) AllReadyH.nil
                      go_simp
                      refine hK.out _ _ hS6a (fun _ => ?_)
                      clear hK K
                      try simp only [Act.put, List.setIfInBounds_toArray, List.set_cons_zero, List.set_cons_succ]
                      refine wpAnyH_ready (rs := [17]) (by kernel_rfl) (by simp) ?_
                      refine AllReadyH.cons rfl (fun K hK => ?_) AllReadyH.nil
                      refine step_app0 rfl _ _ _ rfl 46 (.agg #[.float .f32 0, .float .f32 0, .float .f32 0]) 3 12 Try.underlying24 infoSpot' rfl (by decide) (.slice (some ⟨bv, 0, none⟩) KT cv) KT cs rfl HRV.out ⟨w6.heap.size, 0, none⟩ 1 1 [.float .f32 a, .float .f32 b, .float .f32 c] rfl rfl (World.news_of_block (heap_alloc_new w6 _)) (by simp [Value.oneCell']) (by decide) (by omega) (by decide) ?_
                      intro b7 c7 w7 hr7 hb7 hl7 hg7
                      have HST := Lib.hid (HI11.out.step (rs := [egP ps fs s]) (by omega) (HB6.out.alloc HB6.out.size _) rfl hg7 hr7 hb7 (HI11.out.sp.snoc HI11.out.clen (by rw [HQ.out]; exact HAB.out)))
                      have o17 := HST.out.own7.cell 0
                      have o17f := HST.out.own7.free 0
                      simp at o17
                      have hS7 := HKS.out w7 (fun c h1 h2 h3 => HST.out.kept7 c h1 (by simp [Value.ownBlock]; omega))
                      clear hr7 hb7 hg7
                      refine hK.out _ _ hS7 (fun _ => ?_)
                      clear hK K
                      try simp only [Act.put, List.setIfInBounds_toArray]
                      refine wpAnyH_take (i := 18) (v := ?v17) rfl (by kernel_rfl) (by kernel_rfl) (by kernel_rfl) (fun _ _ _ h => h) (Or.inl ⟨by rfl, ?y17⟩) hS7 ?r17
                      case y17 => (intro w hSw; obtain ⟨hs1, hs2, hs3, hs4, hs5, hs6, hs7, hs8, hs9, hs10, hs11⟩ := hSw; go_simp <;> with_reducible rfl)
                      try simp only [Act.put]
                      refine wpAnyH_ready (rs := [19]) (by kernel_rfl) (by simp) ?_
                      refine AllReadyH.cons rfl (fun K hK => ?_) AllReadyH.nil
                      go_simp
                      refine hK.out _ _ (HKS.out _ (fun c h1 h2 h3 => HST.out.kept c h1 h2 (by simp [Value.ownBlock]; omega))) (fun _ => ?_)
                      clear hK K
                      try simp only [Act.put, List.setIfInBounds_toArray, List.set_cons_zero, List.set_cons_succ]
                      refine wpAnyH_done (by kernel_rfl) ?_ _
                      go_wp2_with fail
                      have hIN : Hid (SpI wb (w7.setCell ⟨ob, 0, none⟩ (.slice (some ⟨b7, 0, none⟩) (KT + 1) c7)) ob (.slice none 0 0) (.slice (some ⟨b7, 0, none⟩) (K + (t + 1)) c7) (K + (t + 1)) (rn2 ps fs (t + 1)) (cs ++ [.float .f32 a, .float .f32 b, .float .f32 c])) := Lib.hid (by
                        have e : K + (t + 1) = KT + 1 := by have := HKT.out; omega
                        rw [e, rn2_succ, ← HSE.out]; exact HST.out.i)
                      have hMN : Hid (OMap (w7.setCell ⟨ob, 0, none⟩ (.slice (some ⟨b7, 0, none⟩) (KT + 1) c7)) M (2 * (t + 1)) (plM fs K (t + 1))) := Lib.hid (HM11.out.of_block (HST.out.kept M (by have := HM11.out.lt; omega) (by omega) (by simp [Value.ownBlock]; omega)))
                      have hbn : ¬ b7 = M := by
                        have hl := HM11.out.lt
                        rcases HST.out.blk with h | h
                        · have : bv = b7 := by simpa [Value.ownBlock] using h
                          omega
                        · omega
                      have hee : (K : Int) + ((t : Int) + 1) = (KT : Int) + 1 := by have := HKT.out; omega
                      go_roundw
                      all_goals first
                        | exact ⟨t + 1, b7, c7, _, by omega, by go_num, hIN, hMN, hbn⟩
                        | (simp [intOf]; omega)
              --R20]
              --]]
          · obtain rfl : t = (fsts fs).length := by omega
            have hfa := HS.out.facets
            obtain ⟨fb, fo, hfae, lf1, lf2, _⟩ := hfa (by omega)
            subst hfae
            have HR9 := Lib.hid (HI.out.ch.own HR.out (by omega))
            have HN9 := Lib.hid (HI.out.ch.own HN.out (by omega))
            have HB9 := Lib.hid (HBb.out.trans (HI.out.ch.toBelow (by omega) (fun c hc => by omega)))
            obtain ⟨wd, hwd⟩ : ∃ x : World, x = wr := ⟨_, rfl⟩
            rw [← hwd] at HI HMP HR9 HN9 HB9 hzr hbvl hMl n0 n1 o0 ⊢
            obtain ⟨KE, hKE⟩ : ∃ k, k = K + (fsts fs).length := ⟨_, rfl⟩
            rw [← hKE] at HI o0
            have HKEE := Lib.hid hKE
            obtain ⟨FS, hFS⟩ : ∃ F, F = rnF fs ps.length := ⟨_, rfl⟩
            have HFSE := Lib.hid hFS
            have hzd := HB9.out.size
            have HCP : Hid (CpX wd wd ob (.slice (some ⟨bv, 0, none⟩) KE cv) FS (sumTo fs 0) (.slice none 0 0) (fun _ => 0) []) := Lib.hid (CpX.start HI.out.own)
            have HNL : Hid (SlN wd lo hi (some ⟨fb, fo, none⟩) fs) := Lib.hid (hfa.far (Far.below HB9.out hh))
            clear hfa hwd hKE hFS HEb HMb HMS HSIDE HEOK o0 hlt
            go_wp2_with fail
            clear n0 n1
            go_loopw [120] (fun iv wr => ∃ (j : Nat) (v : Value) (g : Nat → Nat) (cs2 : List Value), j ≤ fs.length ∧ iv = .int .i64 j ∧ Hid (CpX wd wr ob (.slice (some ⟨bv, 0, none⟩) KE cv) FS (sumTo fs j) v g cs2)) (fun iv _ => fs.length - (intOf iv).toNat)
            case atStart => exact ⟨0, _, _, _, by omega, rfl, HCP⟩
            case round =>
              clear HCP
              obtain ⟨j, v, g, cs2, hj, rfl, HC⟩ := hrel
              have hzr := HC.out.ch.size
              by_cases hlt : j < fs.length
              · have j0 : (0 : Int) ≤ (j : Int) := by omega
                have j1 : (j : Int) < (fs.length : Int) := by omega
                obtain ⟨_, _, hfae, _, _, hfc⟩ := HNL.out (by omega)
                cases hfae
                obtain ⟨ai, ci, hf1, hs1⟩ := hfc j hlt
                have f1 := HC.out.ch.cell hf1 (by omega)
                have HSI := Lib.hid hs1
                have hlen8 := (HOK.out.facets j hlt).2.1
                have hlen3 := (HOK.out.facets j hlt).1
                obtain ⟨m, hm⟩ : ∃ m, m = (fAt fs j).length := ⟨_, rfl⟩
                rw [← hm] at f1 hlen8 hlen3
                have HME2 := Lib.hid hm
                obtain ⟨pf, hpf⟩ : ∃ p, p = wr.heap.size := ⟨_, rfl⟩
                have HOF : Hid (OwnC (wr.alloc (.cells #[.slice ai m ci] 38)) pf #[.slice ai m ci] 38) := Lib.hid (by rw [hpf]; exact OwnC.new rfl)
                have HCA : Hid (CpX wd (wr.alloc (.cells #[.slice ai m ci] 38)) ob (.slice (some ⟨bv, 0, none⟩) KE cv) FS (sumTo fs j + 0) v g cs2) := Lib.hid (HC.out.below (Below.alloc (Below.refl _ _) (Nat.le_refl _) _))
                have hvp : ¬ v.ownBlock = some pf := fun e => by have := ORow0.lt HC.out.row e; omega
                have hpfd : wd.heap.size ≤ pf := by omega
                have HPF := Lib.hid hpf
                clear hfc hf1 hs1 hm
                go_wp2_with fail
                rw [← hpf]
                clear hpf
                go_loopw [131] (fun iv wr => ∃ (k : Nat) (v : Value) (g : Nat → Nat) (cs2 : List Value), k ≤ m ∧ iv = .int .i64 k ∧ Hid (CpX wd wr ob (.slice (some ⟨bv, 0, none⟩) KE cv) FS (sumTo fs j + k) v g cs2) ∧ Hid (OwnC wr pf #[.slice ai m ci] 38) ∧ ¬ v.ownBlock = some pf) (fun iv _ => m - (intOf iv).toNat)
                case atStart => exact ⟨0, _, _, _, by omega, rfl, HCA, HOF, hvp⟩
                case round =>
                  clear HCA HOF hvp HC f1
                  obtain ⟨k, v, g, cs2, hk, rfl, HC, HOF, hvp⟩ := hrel
                  have hzr := HC.out.ch.size
                  by_cases hlt2 : k < m
                  · have k0 : (0 : Int) ≤ (k : Int) := by omega
                    have k1 : (k : Int) < (m : Int) := by omega
                    have hkl : k < (fAt fs j).length := by rw [← HME2.out]; exact hlt2
                    have hsi : SlI wr lo hi ai (fAt fs j) := HSI.out.far (HC.out.ch.far (by omega) (fun c h1 h2 e => by omega))
                    obtain ⟨b3, o3, hai, hb31, hb32, hc3⟩ := hsi (by omega)
                    subst hai
                    have hF := HOK.out.facets j hlt
                    obtain ⟨q, hq⟩ : ∃ q, q = (k + 1) % (fAt fs j).length := ⟨_, rfl⟩
                    obtain ⟨r, hr⟩ : ∃ r, r = (k + (fAt fs j).length - 1) % (fAt fs j).length := ⟨_, rfl⟩
                    have hqm : q < (fAt fs j).length := by rw [hq]; exact Nat.mod_lt _ (by omega)
                    have hrm : r < (fAt fs j).length := by rw [hr]; exact Nat.mod_lt _ (by omega)
                    obtain ⟨uc, huc, hucn⟩ := nat_of (hF.inN k hkl)
                    obtain ⟨un, hun, hunn⟩ := nat_of (hF.inN q hqm)
                    obtain ⟨ub, hub, hubn⟩ := nat_of (hF.inN r hrm)
                    have c1 := hc3 k hkl
                    have c2 := hc3 q hqm
                    have c3 := hc3 r hrm
                    rw [huc] at c1
                    rw [hun] at c2
                    rw [hub] at c3
                    have hcor : corR fs ps.length j k = [(uc : Int), plI fs K uc un, ((ps.length + j : Nat) : Int), plI fs K ub uc] := by
                      unfold corR; rw [← hq, ← hr, huc, hun, hub, HKE.out]
                    have hat : fAt FS (sumTo fs j + k) = [(uc : Int), plI fs K uc un, ((ps.length + j : Nat) : Int), plI fs K ub uc] := by rw [HFSE.out, rnF_at hlt hkl, hcor]
                    have HAT := Lib.hid hat
                    have t2 : IntKind.i64.wrap ((k : Int) + 1) = (k : Int) + 1 := by rw [IntKind.wrap_i64]; omega
                    have t3 : ((k : Int) + 1).tmod (m : Int) = (q : Int) := by
                      rw [Int.tmod_eq_emod_of_nonneg (by omega), hq, HME2.out]; push_cast; rfl
                    have t4 : (0 : Int) ≤ (q : Int) := by omega
                    have t5 : (q : Int) < (m : Int) := by rw [HME2.out]; omega
                    have t6 : IntKind.i64.wrap ((k : Int) + (m : Int)) = (k : Int) + (m : Int) := by rw [IntKind.wrap_i64]; omega
                    have t7 : IntKind.i64.wrap ((k : Int) + (m : Int) - 1) = (k : Int) + (m : Int) - 1 := by rw [IntKind.wrap_i64]; omega
                    have t8 : ((k : Int) + (m : Int) - 1).tmod (m : Int) = (r : Int) := by
                      rw [Int.tmod_eq_emod_of_nonneg (by omega), hr, HME2.out]
                      rw [Int.natCast_emod, Int.natCast_sub (by omega), Int.natCast_add]
                      rfl
                    have t9 : (0 : Int) ≤ (r : Int) := by omega
                    have t10 : (r : Int) < (m : Int) := by rw [HME2.out]; omega
                    have m4 : (m : Int) ≠ 0 := by omega
                    have m5 : ¬ (m : Int) = 0 := by omega
                    have f0 := HOF.out.cell 0
                    simp at f0
                    clear hsi hc3 hF hq hr huc hun hub hcor hat hqm hrm hkl hb31
                    go_wp2_with fail
                    go_upto_region 29 with fail
                    go_cut [18, 19] from 136 to 153 (fun u18 u19 wx => u18 = .int .i64 (un : Nat) ∧ u19 = .int .i64 (ub : Nat) ∧ ∃ n, wx = wr.drewN n)
                    case first =>
                      --[[
                      go_quiet (fail)
                      go_wp2_with fail
                      go_meet
                      exact ⟨rfl, rfl, _, rfl⟩
                      --]]
                    case rest =>
                    obtain ⟨rfl, rfl, nq, hwq⟩ := hcut
                    have hbq : Below wr.heap.size wr wc := by rw [hwq]; exact below_dr (Below.refl _ _) _
                    have HCq := Lib.hid (HC.out.below hbq)
                    have HOFq := Lib.hid (HOF.out.below hbq HOF.out.lt)
                    have HMq : Hid (OMap wc M (2 * (fsts fs).length) (plM fs K (fsts fs).length)) := Lib.hid (by
                      have h1 : OMap wr M (2 * (fsts fs).length) (plM fs K (fsts fs).length) := HMP.out.of_block (HC.out.ch.block M hMl (by omega))
                      exact h1.below hbq h1.lt)
                    have HNq := Lib.hid ((HC.out.below hbq).ch.own HN9.out (by omega))
                    have hzq : wr.heap.size ≤ wc.heap.size := hbq.size
                    have hovl : ∀ b, v.ownBlock = some b → b < wc.heap.size := fun b hb => by have := ORow0.lt HC.out.row hb; omega
                    obtain ⟨wq, hwe⟩ : ∃ x : World, x = wc := ⟨_, rfl⟩
                    rw [← hwe] at HCq HOFq HMq HNq hzq hovl ⊢
                    have HOV := Lib.hid hovl
                    have hfpl := HOFq.out.lt
                    clear hwe hwq hbq hovl HC HOF t2 t3 t4 t5 t6 t7 t8 t9 t10 m4 m5 f0 c1 c2 c3
                    have n0 := HNq.out.cell 0
                    have o1 := HCq.out.own.cell 1
                    simp at n0 o1
                    --[[
                    --R30[
                    obtain ⟨P1, hP1⟩ : ∃ x, x = plI fs K uc un := ⟨_, rfl⟩
                    obtain ⟨P2, hP2⟩ : ∃ x, x = plI fs K ub uc := ⟨_, rfl⟩
                    rw [← hP1, ← hP2] at HAT
                    have HAT2 : Hid (fAt FS (sumTo fs j + k) = [(uc : Int), P1, (ps.length : Int) + (j : Int), P2]) := Lib.hid (by rw [HAT.out, Int.natCast_add])
                    have hnew := HCq.out.new
                    have hwN : w.heap.size < wd.heap.size := by omega
                    have HKS : Hid (∀ W : World, (∀ d, d < wq.heap.size → d ≠ ob → v.ownBlock ≠ some d → W.heap[d]? = wq.heap[d]?) → W.cell? ⟨w.heap.size, 0, none⟩ = some (.slice (some ⟨sb, so, none⟩) ps.length sc) ∧ Sem.run Try.prog (Instr.lookup 67 (.map (some M)) (.agg #[.int .i64 (uc : Nat), .int .i64 (un : Nat)]) false) W = .ok (.int .i64 P1) W ∧ Sem.run Try.prog (Instr.lookup 67 (.map (some M)) (.agg #[.int .i64 (ub : Nat), .int .i64 (uc : Nat)]) false) W = .ok (.int .i64 P2) W) := Lib.hid fun W hW =>
                      have hM : OMap W M (2 * (fsts fs).length) (plM fs K (fsts fs).length) := HMq.out.of_block (hW M (by omega) (by omega) (fun e => by have := hnew _ e; omega))
                      ⟨(World.cell?_of_block (w := wq) (a := ⟨w.heap.size, 0, none⟩) (hW w.heap.size (by omega) (by omega) (fun e => by have := hnew _ e; omega))).trans n0, by rw [hP1]; exact pl_look hM (by constructor <;> omega) (by constructor <;> omega), by rw [hP2]; exact pl_look hM (by constructor <;> omega) (by constructor <;> omega)⟩
                    have hBa : Below wq.heap.size wq ((wq.alloc (.cells #[.int .i64 (uc : Nat), .int .i64 P1, .int .i64 ((ps.length : Int) + (j : Int)), .int .i64 P2] 2)).drew) := below_dr ((Below.refl _ _).alloc (Nat.le_refl _) _) 1
                    have hBb : Below wq.heap.size wq (((wq.alloc (.cells #[.int .i64 (uc : Nat), .int .i64 P1, .int .i64 ((ps.length : Int) + (j : Int)), .int .i64 P2] 2)).alloc (.cells #[.slice (some ⟨wq.heap.size, 0, none⟩) 4 4] 38)).drew) := below_dr (((Below.refl _ _).alloc (Nat.le_refl _) _).alloc (by simp) _) 1
                    have o1a := keep_cell hBa o1
                    have o1b := keep_cell hBb o1
                    have HRV : Hid (ORow0 (((wq.alloc (.cells #[.int .i64 (uc : Nat), .int .i64 P1, .int .i64 ((ps.length : Int) + (j : Int)), .int .i64 P2] 2)).alloc (.cells #[.slice (some ⟨wq.heap.size, 0, none⟩) 4 4] 38)).drew) 38 1 v (sumTo fs j + k) cs2) := Lib.hid (ORow0.below HCq.out.row hBb)
                    have hS0 := HKS.out wq.drew (fun _ _ _ _ => rfl)
                    have hS1 := HKS.out _ (fun d h1 _ _ => hBa.block d h1)
                    have hS2 := HKS.out _ (fun d h1 _ _ => hBb.block d h1)
                    have tW : IntKind.i64.wrap ((ps.length : Int) + (j : Int)) = (ps.length : Int) + (j : Int) := by rw [IntKind.wrap_i64]; omega
                    have hc9 : sumTo fs j + k ≤ 4096 := by have := sumTo_up (fs := fs) (j := j) fs.length (by omega); have := OkNet.sum HOK.out; omega
                    clear hP1 hP2 hBa hBb hnew HAT
                    go_wp2_with fail
                    refine wp_region_held_drew (S := fun W : World => W.cell? ⟨w.heap.size, 0, none⟩ = some (.slice (some ⟨sb, so, none⟩) ps.length sc) ∧ Sem.run Try.prog (Instr.lookup 67 (.map (some M)) (.agg #[.int .i64 (uc : Nat), .int .i64 (un : Nat)]) false) W = .ok (.int .i64 P1) W ∧ Sem.run Try.prog (Instr.lookup 67 (.map (some M)) (.agg #[.int .i64 (ub : Nat), .int .i64 (uc : Nat)]) false) W = .ok (.int .i64 P2) W) (by kernel_rfl) hS0 (fun _ => ?_)
                    refine wpAnyH_take (i := 0) (v := ?v101) rfl (by kernel_rfl) (by kernel_rfl) (by kernel_rfl) (fun _ _ _ h => h) (Or.inl ⟨by rfl, ?y101⟩) hS0 ?r101
                    case y101 => (intro w hSw; obtain ⟨hs1, hs2, hs3⟩ := hSw; go_simp <;> with_reducible rfl)
                    try simp only [Act.put, List.setIfInBounds_toArray]
                    refine wpAnyH_take (i := 2) (v := ?v102) rfl (by kernel_rfl) (by kernel_rfl) (by kernel_rfl) (fun _ _ _ h => h) (Or.inl ⟨by rfl, ?y102⟩) hS0 ?r102
                    case y102 => (intro w hSw; obtain ⟨hs1, hs2, hs3⟩ := hSw; go_simp <;> with_reducible rfl)
                    try simp only [Act.put]
                    refine wpAnyH_take (i := 3) (v := ?v103) rfl (by kernel_rfl) (by kernel_rfl) (by kernel_rfl) (fun _ _ _ h => h) (Or.inl ⟨by rfl, ?y103⟩) hS0 ?r103
                    case y103 => (intro w hSw; obtain ⟨hs1, hs2, hs3⟩ := hSw; go_simp <;> with_reducible rfl)
                    try simp only [Act.put]
                    refine wpAnyH_take (i := 4) (v := ?v104) rfl (by kernel_rfl) (by kernel_rfl) (by kernel_rfl) (fun _ _ _ h => h) (Or.inl ⟨by rfl, ?y104⟩) hS0 ?r104
                    case y104 => (intro w hSw; obtain ⟨hs1, hs2, hs3⟩ := hSw; go_simp <;> with_reducible rfl)
                    try simp only [Act.put]
                    refine wpAnyH_take (i := 5) (v := ?v105) rfl (by kernel_rfl) (by kernel_rfl) (by kernel_rfl) (fun _ _ _ h => h) (Or.inl ⟨by rfl, ?y105⟩) hS0 ?r105
                    case y105 => (intro w hSw; obtain ⟨hs1, hs2, hs3⟩ := hSw; go_simp <;> with_reducible rfl)
                    try simp only [Act.put]
                    refine wpAnyH_take (i := 6) (v := ?v106) rfl (by kernel_rfl) (by kernel_rfl) (by kernel_rfl) (fun _ _ _ h => h) (Or.inl ⟨by rfl, ?y106⟩) hS0 ?r106
                    case y106 => (intro w hSw; obtain ⟨hs1, hs2, hs3⟩ := hSw; go_simp <;> with_reducible rfl)
                    try simp only [Act.put]
                    refine wpAnyH_take (i := 7) (v := ?v107) rfl (by kernel_rfl) (by kernel_rfl) (by kernel_rfl) (fun _ _ _ h => h) (Or.inl ⟨by rfl, ?y107⟩) hS0 ?r107
                    case y107 => (intro w hSw; obtain ⟨hs1, hs2, hs3⟩ := hSw; go_simp <;> with_reducible rfl)
                    try simp only [Act.put]
                    refine wpAnyH_take (i := 8) (v := ?v108) rfl (by kernel_rfl) (by kernel_rfl) (by kernel_rfl) (fun _ _ _ h => h) (Or.inl ⟨by rfl, ?y108⟩) hS0 ?r108
                    case y108 => (intro w hSw; obtain ⟨hs1, hs2, hs3⟩ := hSw; go_simp <;> with_reducible rfl)
                    try simp only [Act.put]
                    refine wpAnyH_take (i := 9) (v := ?v109) rfl (by kernel_rfl) (by kernel_rfl) (by kernel_rfl) (fun _ _ _ h => h) (Or.inl ⟨by rfl, ?y109⟩) hS0 ?r109
                    case y109 => (intro w hSw; obtain ⟨hs1, hs2, hs3⟩ := hSw; go_simp <;> with_reducible rfl)
                    try simp only [Act.put]
                    refine wpAnyH_take (i := 10) (v := ?v110) rfl (by kernel_rfl) (by kernel_rfl) (by kernel_rfl) (fun _ _ _ h => h) (Or.inl ⟨by rfl, ?y110⟩) hS0 ?r110
                    case y110 => (intro w hSw; obtain ⟨hs1, hs2, hs3⟩ := hSw; go_simp <;> with_reducible rfl)
                    try simp only [Act.put]
                    refine wpAnyH_take (i := 11) (v := ?v111) rfl (by kernel_rfl) (by kernel_rfl) (by kernel_rfl) (fun _ _ _ h => h) (Or.inl ⟨by rfl, ?y111⟩) hS0 ?r111
                    case y111 => (intro w hSw; obtain ⟨hs1, hs2, hs3⟩ := hSw; go_simp <;> with_reducible rfl)
                    try simp only [Act.put]
                    refine wpAnyH_take (i := 12) (v := ?v112) rfl (by kernel_rfl) (by kernel_rfl) (by kernel_rfl) (fun _ _ _ h => h) (Or.inl ⟨by rfl, ?y112⟩) hS0 ?r112
                    case y112 => (intro w hSw; obtain ⟨hs1, hs2, hs3⟩ := hSw; go_simp <;> with_reducible rfl)
                    try simp only [Act.put]
                    refine wpAnyH_take (i := 13) (v := ?v113) rfl (by kernel_rfl) (by kernel_rfl) (by kernel_rfl) (fun _ _ _ h => h) (Or.inl ⟨by rfl, ?y113⟩) hS0 ?r113
                    case y113 => (intro w hSw; obtain ⟨hs1, hs2, hs3⟩ := hSw; go_simp <;> with_reducible rfl)
                    try simp only [Act.put]
                    refine wpAnyH_take (i := 14) (v := ?v114) rfl (by kernel_rfl) (by kernel_rfl) (by kernel_rfl) (fun _ _ _ h => h) (Or.inl ⟨by rfl, ?y114⟩) hS0 ?r114
                    case y114 => (intro w hSw; obtain ⟨hs1, hs2, hs3⟩ := hSw; go_simp <;> with_reducible rfl)
                    try simp only [Act.put]
                    refine wpAnyH_take (i := 15) (v := ?v115) rfl (by kernel_rfl) (by kernel_rfl) (by kernel_rfl) (fun _ _ _ h => h) (Or.inl ⟨by rfl, ?y115⟩) hS0 ?r115
                    case y115 => (intro w hSw; obtain ⟨hs1, hs2, hs3⟩ := hSw; go_simp <;> with_reducible rfl)
                    try simp only [Act.put]
                    refine wpAnyH_take (i := 16) (v := ?v116) rfl (by kernel_rfl) (by kernel_rfl) (by kernel_rfl) (fun _ _ _ h => h) (Or.inl ⟨by rfl, ?y116⟩) hS0 ?r116
                    case y116 => (intro w hSw; obtain ⟨hs1, hs2, hs3⟩ := hSw; go_simp <;> with_reducible rfl)
                    try simp only [Act.put]
                    refine wpAnyH_take (i := 17) (v := ?v117) rfl (by kernel_rfl) (by kernel_rfl) (by kernel_rfl) (fun _ _ _ h => h) (Or.inl ⟨by rfl, ?y117⟩) hS0 ?r117
                    case y117 => (intro w hSw; obtain ⟨hs1, hs2, hs3⟩ := hSw; go_simp <;> with_reducible rfl)
                    try simp only [Act.put]
                    refine wpAnyH_ready (rs := [1, 18]) (by kernel_rfl) (by simp) ?_
                    refine AllReadyH.cons rfl (fun K hK => ?_) (AllReadyH.cons rfl (fun K hK => ?_) AllReadyH.nil)
                    · go_simp
                      refine hK.out _ _ hS0 (fun _ => ?_)
                      clear hK K
                      try simp only [Act.put, List.setIfInBounds_toArray, List.set_cons_zero, List.set_cons_succ]
                      refine wpAnyH_ready (rs := [18]) (by kernel_rfl) (by simp) ?_
                      refine AllReadyH.cons rfl (fun K hK => ?_) AllReadyH.nil
                      go_simp
                      refine hK.out _ _ hS1 (fun _ => ?_)
                      clear hK K
                      try simp only [Act.put, List.setIfInBounds_toArray]
                      refine wpAnyH_take (i := 19) (v := ?v118) rfl (by kernel_rfl) (by kernel_rfl) (by kernel_rfl) (fun _ _ _ h => h) (Or.inl ⟨by rfl, ?y118⟩) hS1 ?r118
                      case y118 => (intro w hSw; obtain ⟨hs1, hs2, hs3⟩ := hSw; go_simp <;> with_reducible rfl)
                      try simp only [Act.put]
                      refine wpAnyH_ready (rs := [20]) (by kernel_rfl) (by simp) ?_
                      refine AllReadyH.cons rfl (fun K hK => ?_) AllReadyH.nil
                      go_simp
                      refine hK.out _ _ hS2 (fun _ => ?_)
                      clear hK K
                      try simp only [Act.put, List.setIfInBounds_toArray, List.set_cons_zero, List.set_cons_succ]
                      refine wpAnyH_ready (rs := [21]) (by kernel_rfl) (by simp) ?_
                      refine AllReadyH.cons rfl (fun K hK => ?_) AllReadyH.nil
                      refine step_app0 rfl _ _ _ rfl 38 (.agg #[.slice none 0 0]) 1 24 Try.underlying25 infoFacet rfl (by decide) v (sumTo fs j + k) cs2 rfl HRV.out ⟨wq.heap.size + 1, 0, none⟩ 1 1 [.slice (some ⟨wq.heap.size, 0, none⟩) 4 4] rfl rfl (World.news_of_block (two_allocs wq _ _)) (by simp [Value.oneCell']) (by decide) (by omega) (by decide) ?_
                      intro b7 c7 w7 hr7 hb7 hl7 hg7
                      have HST := Lib.hid (HCq.out.step4 (by omega) HAT2.out hg7 hr7 (hb7.imp id (fun h => by rw [h]; simp)))
                      have o17 := HST.out.own7.cell 1
                      have o17f := HST.out.own7.free 1
                      simp at o17
                      have hS7 := HKS.out w7 (fun d h1 h2 h3 => HST.out.kept7 d h1 h3)
                      clear hr7 hb7 hg7
                      refine hK.out _ _ hS7 (fun _ => ?_)
                      clear hK K
                      try simp only [Act.put, List.setIfInBounds_toArray]
                      refine wpAnyH_take (i := 22) (v := ?v119) rfl (by kernel_rfl) (by kernel_rfl) (by kernel_rfl) (fun _ _ _ h => h) (Or.inl ⟨by rfl, ?y119⟩) hS7 ?r119
                      case y119 => (intro w hSw; obtain ⟨hs1, hs2, hs3⟩ := hSw; go_simp <;> with_reducible rfl)
                      try simp only [Act.put]
                      refine wpAnyH_ready (rs := [23]) (by kernel_rfl) (by simp) ?_
                      refine AllReadyH.cons rfl (fun K hK => ?_) AllReadyH.nil
                      go_simp
                      refine hK.out _ _ (HKS.out _ (fun d h1 h2 h3 => HST.out.kept d h1 h2 h3)) (fun _ => ?_)
                      clear hK K
                      try simp only [Act.put, List.setIfInBounds_toArray, List.set_cons_zero, List.set_cons_succ]
                      refine wpAnyH_done (by kernel_rfl) ?_ _
                      go_wp2_with fail
                      have hOF9 : Hid (OwnC (w7.setCell ⟨ob, 1, none⟩ (.slice (some ⟨b7, 0, none⟩) (sumTo fs j + k + 1) c7)) pf #[.slice (some ⟨b3, o3, none⟩) m ci] 38) := Lib.hid ((HST.out.kept pf hfpl (by omega) hvp).trans HOFq.out)
                      have hvn : ¬ (Value.slice (some ⟨b7, 0, none⟩) (sumTo fs j + k + 1) c7).ownBlock = some pf := fun h => by
                        have h : b7 = pf := by simpa [Value.ownBlock] using h
                        rcases HST.out.blk with e | e
                        · exact hvp (by rw [e, h])
                        · omega
                      go_roundw
                      all_goals first
                        | exact ⟨k + 1, _, _, _, by omega, by go_num, Lib.hid HST.out.i, hOF9, hvn⟩
                        | (simp [intOf]; omega)
                    · go_simp
                      refine hK.out _ _ hS1 (fun _ => ?_)
                      clear hK K
                      try simp only [Act.put, List.setIfInBounds_toArray]
                      refine wpAnyH_take (i := 19) (v := ?v120) rfl (by kernel_rfl) (by kernel_rfl) (by kernel_rfl) (fun _ _ _ h => h) (Or.inl ⟨by rfl, ?y120⟩) hS1 ?r120
                      case y120 => (intro w hSw; obtain ⟨hs1, hs2, hs3⟩ := hSw; go_simp <;> with_reducible rfl)
                      try simp only [Act.put]
                      refine wpAnyH_ready (rs := [1, 20]) (by kernel_rfl) (by simp) ?_
                      refine AllReadyH.cons rfl (fun K hK => ?_) (AllReadyH.cons rfl (fun K hK => ?_) AllReadyH.nil)
                      · go_simp
                        refine hK.out _ _ hS1 (fun _ => ?_)
                        clear hK K
                        try simp only [Act.put, List.setIfInBounds_toArray, List.set_cons_zero, List.set_cons_succ]
                        refine wpAnyH_ready (rs := [20]) (by kernel_rfl) (by simp) ?_
                        refine AllReadyH.cons rfl (fun K hK => ?_) AllReadyH.nil
                        go_simp
                        refine hK.out _ _ hS2 (fun _ => ?_)
                        clear hK K
                        try simp only [Act.put, List.setIfInBounds_toArray, List.set_cons_zero, List.set_cons_succ]
                        refine wpAnyH_ready (rs := [21]) (by kernel_rfl) (by simp) ?_
                        refine AllReadyH.cons rfl (fun K hK => ?_) AllReadyH.nil
                        refine step_app0 rfl _ _ _ rfl 38 (.agg #[.slice none 0 0]) 1 24 Try.underlying25 infoFacet rfl (by decide) v (sumTo fs j + k) cs2 rfl HRV.out ⟨wq.heap.size + 1, 0, none⟩ 1 1 [.slice (some ⟨wq.heap.size, 0, none⟩) 4 4] rfl rfl (World.news_of_block (two_allocs wq _ _)) (by simp [Value.oneCell']) (by decide) (by omega) (by decide) ?_
                        intro b7 c7 w7 hr7 hb7 hl7 hg7
                        have HST := Lib.hid (HCq.out.step4 (by omega) HAT2.out hg7 hr7 (hb7.imp id (fun h => by rw [h]; simp)))
                        have o17 := HST.out.own7.cell 1
                        have o17f := HST.out.own7.free 1
                        simp at o17
                        have hS7 := HKS.out w7 (fun d h1 h2 h3 => HST.out.kept7 d h1 h3)
                        clear hr7 hb7 hg7
                        refine hK.out _ _ hS7 (fun _ => ?_)
                        clear hK K
                        try simp only [Act.put, List.setIfInBounds_toArray]
                        refine wpAnyH_take (i := 22) (v := ?v121) rfl (by kernel_rfl) (by kernel_rfl) (by kernel_rfl) (fun _ _ _ h => h) (Or.inl ⟨by rfl, ?y121⟩) hS7 ?r121
                        case y121 => (intro w hSw; obtain ⟨hs1, hs2, hs3⟩ := hSw; go_simp <;> with_reducible rfl)
                        try simp only [Act.put]
                        refine wpAnyH_ready (rs := [23]) (by kernel_rfl) (by simp) ?_
                        refine AllReadyH.cons rfl (fun K hK => ?_) AllReadyH.nil
                        go_simp
                        refine hK.out _ _ (HKS.out _ (fun d h1 h2 h3 => HST.out.kept d h1 h2 h3)) (fun _ => ?_)
                        clear hK K
                        try simp only [Act.put, List.setIfInBounds_toArray, List.set_cons_zero, List.set_cons_succ]
                        refine wpAnyH_done (by kernel_rfl) ?_ _
                        go_wp2_with fail
                        have hOF9 : Hid (OwnC (w7.setCell ⟨ob, 1, none⟩ (.slice (some ⟨b7, 0, none⟩) (sumTo fs j + k + 1) c7)) pf #[.slice (some ⟨b3, o3, none⟩) m ci] 38) := Lib.hid ((HST.out.kept pf hfpl (by omega) hvp).trans HOFq.out)
                        have hvn : ¬ (Value.slice (some ⟨b7, 0, none⟩) (sumTo fs j + k + 1) c7).ownBlock = some pf := fun h => by
                          have h : b7 = pf := by simpa [Value.ownBlock] using h
                          rcases HST.out.blk with e | e
                          · exact hvp (by rw [e, h])
                          · omega
                        go_roundw
                        all_goals first
                          | exact ⟨k + 1, _, _, _, by omega, by go_num, Lib.hid HST.out.i, hOF9, hvn⟩
                          | (simp [intOf]; omega)
                      · go_simp
                        refine hK.out _ _ hS2 (fun _ => ?_)
                        clear hK K
                        try simp only [Act.put, List.setIfInBounds_toArray, List.set_cons_zero, List.set_cons_succ]
                        refine wpAnyH_ready (rs := [1]) (by kernel_rfl) (by simp) ?_
                        refine AllReadyH.cons rfl (fun K hK => ?_) AllReadyH.nil
                        go_simp
                        refine hK.out _ _ hS2 (fun _ => ?_)
                        clear hK K
                        try simp only [Act.put, List.setIfInBounds_toArray, List.set_cons_zero, List.set_cons_succ]
                        refine wpAnyH_ready (rs := [21]) (by kernel_rfl) (by simp) ?_
                        refine AllReadyH.cons rfl (fun K hK => ?_) AllReadyH.nil
                        refine step_app0 rfl _ _ _ rfl 38 (.agg #[.slice none 0 0]) 1 24 Try.underlying25 infoFacet rfl (by decide) v (sumTo fs j + k) cs2 rfl HRV.out ⟨wq.heap.size + 1, 0, none⟩ 1 1 [.slice (some ⟨wq.heap.size, 0, none⟩) 4 4] rfl rfl (World.news_of_block (two_allocs wq _ _)) (by simp [Value.oneCell']) (by decide) (by omega) (by decide) ?_
                        intro b7 c7 w7 hr7 hb7 hl7 hg7
                        have HST := Lib.hid (HCq.out.step4 (by omega) HAT2.out hg7 hr7 (hb7.imp id (fun h => by rw [h]; simp)))
                        have o17 := HST.out.own7.cell 1
                        have o17f := HST.out.own7.free 1
                        simp at o17
                        have hS7 := HKS.out w7 (fun d h1 h2 h3 => HST.out.kept7 d h1 h3)
                        clear hr7 hb7 hg7
                        refine hK.out _ _ hS7 (fun _ => ?_)
                        clear hK K
                        try simp only [Act.put, List.setIfInBounds_toArray]
                        refine wpAnyH_take (i := 22) (v := ?v122) rfl (by kernel_rfl) (by kernel_rfl) (by kernel_rfl) (fun _ _ _ h => h) (Or.inl ⟨by rfl, ?y122⟩) hS7 ?r122
                        case y122 => (intro w hSw; obtain ⟨hs1, hs2, hs3⟩ := hSw; go_simp <;> with_reducible rfl)
                        try simp only [Act.put]
                        refine wpAnyH_ready (rs := [23]) (by kernel_rfl) (by simp) ?_
                        refine AllReadyH.cons rfl (fun K hK => ?_) AllReadyH.nil
                        go_simp
                        refine hK.out _ _ (HKS.out _ (fun d h1 h2 h3 => HST.out.kept d h1 h2 h3)) (fun _ => ?_)
                        clear hK K
                        try simp only [Act.put, List.setIfInBounds_toArray, List.set_cons_zero, List.set_cons_succ]
                        refine wpAnyH_done (by kernel_rfl) ?_ _
                        go_wp2_with fail
                        have hOF9 : Hid (OwnC (w7.setCell ⟨ob, 1, none⟩ (.slice (some ⟨b7, 0, none⟩) (sumTo fs j + k + 1) c7)) pf #[.slice (some ⟨b3, o3, none⟩) m ci] 38) := Lib.hid ((HST.out.kept pf hfpl (by omega) hvp).trans HOFq.out)
                        have hvn : ¬ (Value.slice (some ⟨b7, 0, none⟩) (sumTo fs j + k + 1) c7).ownBlock = some pf := fun h => by
                          have h : b7 = pf := by simpa [Value.ownBlock] using h
                          rcases HST.out.blk with e | e
                          · exact hvp (by rw [e, h])
                          · omega
                        go_roundw
                        all_goals first
                          | exact ⟨k + 1, _, _, _, by omega, by go_num, Lib.hid HST.out.i, hOF9, hvn⟩
                          | (simp [intOf]; omega)
                    --R30]
                    --]]
                  · obtain rfl : k = m := by omega
                    go_wp2_with fail
                    have e9 : sumTo fs j + k = sumTo fs (j + 1) := by simp only [sumTo]; rw [HME2.out]
                    rw [e9] at HC
                    go_roundw
                    case rel => exact ⟨j + 1, v, g, cs2, by omega, by go_num, HC⟩
                    case measure => simp [intOf]; omega
              · obtain rfl : j = fs.length := by omega
                have hFL : FS.length = sumTo fs fs.length := by rw [HFSE.out, rnF_len]
                have hnet2 : OkNet (rnP ps fs) FS (colA FS) (colB FS) := by rw [HFSE.out]; exact okN_net HV2.out
                have hcpos : 0 < sumTo fs fs.length := by have := hnet2.f1; omega
                have hc256 := hnet2.f256
                have hlen : (rnP ps fs).length = KE := HI.out.len
                have hl256 := hnet2.n256
                obtain ⟨bf, cf, rfl, hrowF⟩ := ORow0.form HC.out.row hcpos
                have hbf := HC.out.new bf rfl
                obtain ⟨bv', cv', ee, hrowS⟩ := ORow0.form HI.out.row (by have := hnet2.n3; omega)
                cases ee
                have hrS : ORow wr 46 3 bv cv KE cs := hrowS.far (lo := bv) (hi := bv + 1) (HC.out.ch.far (by omega) (fun c h1 h2 e => by omega)) (Nat.le_refl _) (Nat.lt_succ_self _)
                have hrS' : ORow wr 46 3 bv cv (rnP ps fs).length cs := by rw [hlen]; exact hrS
                have hsp : SpL cs (rnP ps fs) := HI.out.sp
                have hFN : OwnF wr wd.heap.size wr.heap.size bf g FS := by
                  have h1 := HC.out.fr
                  rw [← hFL] at h1 hrowF
                  exact h1.own hrowF hbf
                have hbv : wb.heap.size ≤ bv := HI.out.new bv rfl
                have hwb2 : w.heap.size + 2 ≤ wb.heap.size := by have := HZ8.out; have := HBX.out.size; have := HR3.out.lt; omega
                have hNW : ONet wr wb.heap.size wr.heap.size (some ⟨bv, 0, none⟩) (some ⟨bf, 0, none⟩) (rnP ps fs) FS :=
                  ⟨⟨.inr ⟨bv, rfl, by omega, hrS.lt, hrS'.room, hrS'.spots hsp⟩⟩, .inr ⟨bf, g, rfl, hFN.wide (by omega) (Nat.le_refl _), fun b e => by cases e; exact ⟨by omega, fun i hi => by have := hFN.blk i hi; omega⟩⟩⟩
                have hbl := hFN.row
                have hCA : SlC wr wb.heap.size wr.heap.size (some ⟨bf, 0, none⟩) FS := fun b off e => by
                  cases e
                  exact ⟨by omega, by omega, fun i hi ai n ci hc => hFN.cap i hi ai n ci (by rw [Nat.zero_add] at hc; exact hc)⟩
                have hG := giveB wb.heap.size wr.heap.size (some ⟨bv, 0, none⟩) (some ⟨bf, 0, none⟩) cv cf (rnP ps fs) FS (by omega) (by omega) (fun i hi => by have := (hnet2.facets i hi).2.1; omega) wr hNW.net hCA (Nat.le_refl _)
                have hvz : okN (rnP ps fs) FS = true := by rw [HFSE.out]; exact HV2.out
                rw [hlen, hFL, hvz] at hG
                have HNW := Lib.hid hNW
                have hch := HC.out.ch
                have HBW : Hid (Below w.heap.size w wr) := Lib.hid (HB9.out.trans (hch.toBelow (by omega) (fun c hc => by omega)))
                have hRN : OwnC wr (w.heap.size + 1) #[.slice none 0 0, .slice none 0 0] 27 := hch.own HR9.out (by omega)
                have HRN := Lib.hid hRN
                have o0 := HC.out.own.cell 0
                have o1 := HC.out.own.cell 1
                simp at o0 o1
                have hrl := HRN.out.lt
                have HG := Lib.hid hG
                have HLEN := Lib.hid hlen
                have HFL := Lib.hid hFL
                have HCH := Lib.hid hch
                clear hG hvz hRN hNW hCA hFN hrowF hrowS hrS hrS' hsp hnet2 HC HI HMP HN9 HR9 HB9 hch hlen hFL
                go_wp2_with (go_at_call 33; refine HG.out.mono ?_; rintro e w9 ⟨rfl, hb9⟩; have R9 := HRN.out.below hb9 hrl; have r0 := R9.cell 0; have r1 := R9.cell 1; have i0 := R9.free 0; have i1 := R9.free 1; simp at r0 r1; have HB9 := Lib.hid hb9; clear hb9)
                have R := (R9.set 0 (.slice (some ⟨bv, 0, none⟩) KE cv)).set 1 (.slice (some ⟨bf, 0, none⟩) (sumTo fs fs.length) cf)
                have q0 := R.cell 0
                have q1 := R.cell 1
                simp at q0 q1
                refine bodyPost_ret (v := .tuple #[.agg #[.slice (some ⟨bv, 0, none⟩) KE cv, .slice (some ⟨bf, 0, none⟩) (sumTo fs fs.length) cf], .bool true]) (by simp [results, Try.results9, go_sem, *]) rfl ?_
                have hfin : Far wb.heap.size wr.heap.size wr ((w9.setCell ⟨w.heap.size + 1, 0, none⟩ (.slice (some ⟨bv, 0, none⟩) KE cv)).setCell ⟨w.heap.size + 1, 1, none⟩ (.slice (some ⟨bf, 0, none⟩) (sumTo fs fs.length) cf)) := ((Far.below HB9.out (Nat.le_refl _)).set _ _ (by simp; omega)).set _ _ (by simp; omega)
                rw [← HFSE.out]
                refine ⟨⟨some ⟨bv, 0, none⟩, some ⟨bf, 0, none⟩, cv, cf, by rw [HLEN.out, HFL.out]; rfl, ?_⟩, ((HBW.out.trans (HB9.out.mono HBW.out.size)).setCell (by simp) _).setCell (by simp) _⟩
                have h8 := HB9.out.size
                have := HNW.out.far hfin
                simp only [World.size_setCell]
                exact this.wide (by omega) (by omega)
end Go.Proofs.Ytkjljajjjhfklaa

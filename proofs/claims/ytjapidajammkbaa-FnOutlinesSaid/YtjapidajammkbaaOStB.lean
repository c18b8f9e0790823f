/- An outline's bytes: the program's StoreOutline. -/
import Derived.Test.YtjapidajammkbaaOStS
import Derived.Test.YtjapidajammkbaaOVo
import Derived.Deep.RegionLaw
import Derived.Deep.CutRange
import Derived.Deep.DeepCutAuto
namespace Go.Fl
theorem Grew.cell_other {b c i : Nat} {w0 w1 : World} (h : Grew b w0 w1) (h1 : c < w0.heap.size) (h2 : c ≠ b) : w1.cell? ⟨c, i, none⟩ = w0.cell? ⟨c, i, none⟩ := World.cell?_of_block (h.block c h1 h2)
end Go.Fl
namespace Go.Proofs.Ytjapidajammkbaa
open Go.RowKit Go.Fl

theorem storeNo (lo hi : Nat) (ao : Option Addr) (c : Nat) (nm : ByteArray) (ls : List (List Cx)) (hnm : nm.size ≤ 1048576) (hn : ls.length ≤ 1048576) (hsh : ∀ i, i < ls.length → (lpAt ls i).length ≤ 1048576) (hok : ¬ okOut nm ls) (w : World) (hs : SlL w lo hi ao ls) (hh : hi ≤ w.heap.size) :
    Calls Try.prog 6 #[.agg #[.string nm, .slice ao ls.length c]] w fun e w' => e = .returned (.tuple #[.string ⟨#[]⟩, .bool false]) ∧ Below w.heap.size w w' := by
  have HS := Lib.hid (hs.far ((Far.refl _ _ _).alloc (.cells #[.string nm, .slice ao ls.length c] 31) hh))
  have HSH := Lib.hid hsh
  have hno : decide (okOut nm ls) = false := decide_eq_false hok
  clear hs hsh hok
  go_enter Try.func6, Try.ntmps6
  go_wp2_with (go_at_call 8; refine (validOutline lo hi ao c nm ls hnm hn HSH.out _ HS.out (by simp; omega)).mono ?_; rintro e w1 ⟨rfl, hb⟩; rw [hno])
  go_ret2
  exact ⟨rfl, Below.trans (by (repeat (first | exact Below.refl _ _ | assumption | refine below_dr ?_ _ | refine Below.alloc ?_ (by first | omega | (simp; done) | (simp; omega)) _ | refine Below.setCell ?_ (by first | omega | (simp; done) | (simp; omega)) _ | refine Below.trans ?_ (Below.mono (by assumption) (by first | omega | (simp; done) | (simp; omega)))))) (hb.mono (by simp))⟩

set_option maxHeartbeats 2000000 in
set_option maxRecDepth 100000 in
theorem storeYes (lo hi : Nat) (ao : Option Addr) (c : Nat) (nm : ByteArray) (ls : List (List Cx)) (hok : okOut nm ls) (hsm : Sm ls) (w : World) (hs : SlL w lo hi ao ls) (hh : hi ≤ w.heap.size) :
    Calls Try.prog 6 #[.agg #[.string nm, .slice ao ls.length c]] w fun e w' => e = .returned (.tuple #[.string ⟨(stoB nm ls).toArray⟩, .bool true]) ∧ Below w.heap.size w w' := by
  have HS0 := Lib.hid (hs.far ((Far.refl _ _ _).alloc (.cells #[.string nm, .slice ao ls.length c] 31) hh))
  have HSM := Lib.hid hsm
  have HSH := Lib.hid (okOut_short hok)
  have hnm1 := hok.1.2.1
  have hnm8 := hok.1.2.2
  have hl1 := hok.2.1
  have hl4 := hok.2.2.1
  have hy : decide (okOut nm ls) = true := decide_eq_true hok
  have A0 : OwnC (w.alloc (.cells #[.string nm, .slice ao ls.length c] 31)) w.heap.size #[.string nm, .slice ao ls.length c] 31 := OwnC.new rfl
  have HA0 := Lib.hid A0
  clear hs hsm hok A0
  obtain ⟨F, hF4⟩ : ∃ F : Nat, F = 4 := ⟨4, rfl⟩
  have hcc : ∀ W : World, (convert 22 22 (.slice (some ⟨W.heap.size, 0, none⟩) 4 4)).run Try.prog (W.alloc (.cells #[.int .u8 79, .int .u8 85, .int .u8 84, .int .u8 49] 5)) = .ok (.slice (some ⟨W.heap.size, 0, none⟩) F F) (W.alloc (.cells #[.int .u8 79, .int .u8 85, .int .u8 84, .int .u8 49] 5 (4, 5))) := fun W => by
    rw [hF4]
    exact Lib.run_convert_bytes_const (P := Try.prog) W 22 5 #[.int .u8 79, .int .u8 85, .int .u8 84, .int .u8 49] 4 4 Try.underlying22 Try.underlying5
  have HF := Lib.hid hF4
  have hF : F ≤ 4 := by omega
  have hF' : 4 ≤ F := by omega
  clear hF4
  go_enter Try.func6, Try.ntmps6
  have n0 : (nm.size : Int) ≤ 8 := by omega
  have n1 : (0 : Int) ≤ (nm.size : Int) := by omega
  have k0 : (0 : Int) ≤ (ls.length : Int) := by omega
  have k1 : (ls.length : Int) ≤ 4 := by omega
  go_upto_region 4 with (first
    | (go_at_call 8; refine (validOutline lo hi ao c nm ls (by omega) (by omega) (fun i hi => by have := HSH.out i hi; omega) _ HS0.out (by simp; omega)).mono ?_; rintro e wv ⟨rfl, hbv⟩; rw [hy]; have HV := Lib.hid hbv; have zv : w.heap.size + 1 ≤ wv.heap.size := (by have := hbv.size; simpa using this); have HP0 := Lib.hid (show wv.cell? ⟨w.heap.size, 0, none⟩ = some (.string nm) from by have := (HA0.out.below hbv (by simp)).cell 0; simpa using this); have HP1 := Lib.hid (show wv.cell? ⟨w.heap.size, 1, none⟩ = some (.slice ao ls.length c) from by have := (HA0.out.below hbv (by simp)).cell 1; simpa using this); have HS := Lib.hid (HS0.out.far (Far.below hbv (by simp; omega))); have hplt : w.heap.size < wv.heap.size := (by omega); have d00 := HP0.out; have d01 := HP1.out; clear hbv)
    | (at_builtin; refine wpList_appG rfl _ _ _ rfl 5 Try.underlying22 infoB wv.heap.size F (Lib.byteCells [79, 85, 84, 49]) rfl (by rw [HF.out]; rfl) (fun j u h => mark_cell wv _ j u h) (wv.heap.size + 1) 1 1 [.int .u8 (nm.size : Int)] rfl rfl (fun j u h => one_cell wv _ _ j u h) (by simp [Value.oneCell']) (by omega) (by omega) ?_; intro b1 cap1 w1 hr1 hbb1 hb1; have hbe1 : wv.heap.size ≤ b1 := (by simp at hbb1; omega); clear hbb1; have HR1 := Lib.hid (row_mark hr1 (by omega)); have hq1 : Below wv.heap.size _ w1 := hb1.mono (by first | (simp; done) | (simp; omega)); have hq0 : Below wv.heap.size wv w1 := Below.trans (by (repeat (first | exact Below.refl _ _ | assumption | refine below_dr ?_ _ | refine Below.alloc ?_ (by first | omega | (simp; done) | (simp; omega)) _ | refine Below.setCell ?_ (by first | omega | (simp; done) | (simp; omega)) _ | refine Below.trans ?_ (Below.mono (by assumption) (by first | omega | (simp; done) | (simp; omega)))))) hq1; have HB1 := Lib.hid hq0; clear hq0 hq1; clear hr1 hb1; have hz1 := HB1.out.size; have d10 := keep_cell HB1.out HP0.out; have d11 := keep_cell HB1.out HP1.out))
  have hp1lt : w.heap.size < w1.heap.size := by omega
  have hwr : IntKind.u8.wrap (ls.length : Int) = (ls.length : Int) := by rw [IntKind.wrap_u8]; omega
  have HWR := Lib.hid hwr
  clear hwr
  go_cut [4] (fun s wx => ∃ b cap : Nat, s = .slice (some ⟨b, 0, none⟩) (F + 1 + nm.size + 1) cap ∧ Hid (ORow wx 5 1 b cap (F + 1 + nm.size + 1) (Lib.byteCells ([79, 85, 84, 49] ++ [UInt8.ofNat nm.size] ++ nm.data.toList ++ [UInt8.ofNat ls.length]))) ∧ wv.heap.size ≤ b ∧ Hid (Below wv.heap.size wv wx))
  case first =>
    go_region_law (first
      | (refine step_appS rfl (.tmp 22) (.tmp 24) 22 9 rfl 5 Try.underlying22 Try.underlying9 infoB b1 cap1 (F + 1) _ (by simp [Act.eval, Act.put]) (by first | exact HR1.out | exact HR1.out.below ((Below.alloc (Below.refl _ _) (Nat.le_refl _) _).drew) HR1.out.lt | exact HR1.out.below (Below.alloc (Below.refl _ _) (Nat.le_refl _) _) HR1.out.lt) nm (by simp [Act.eval, Act.put]) (by omega) (by omega) wv.heap.size hbe1 (by first | exact hz1 | (simp; omega)) ?_; intro b2 cap2 w2 hr2 hbe2 hg2; have HR2 := Lib.hid (row_app hr2); have HB2 := Lib.hid (Below.trans (B := wv.heap.size) (by first | exact HB1.out.drew | exact (Below.alloc HB1.out hz1 _).drew | exact Below.alloc HB1.out.drew hz1 _) (hg2.below hbe1 (by first | exact hz1 | (simp; omega)))); have HG2 := Lib.hid hg2; have d21 := keep_cell HB2.out HP1.out; have d20 := keep_cell HB2.out HP0.out; have hz2 := HB2.out.size; have hp2lt : w.heap.size < w2.heap.size := (by omega); clear hr2 hg2)
      | (refine step_appB rfl (.tmp 25) (.tmp 30) 22 rfl 5 (.int .u8 0) 1 Try.underlying22 infoB rfl (by decide) b2 cap2 (F + 1 + nm.size) _ (by simp [Act.eval]) (HR2.out.below (Below.alloc (Below.refl _ _) (Nat.le_refl _) _) HR2.out.lt) w2.heap.size 1 1 [.int .u8 (IntKind.u8.wrap (ls.length : Int))] (by simp [Act.eval]) rfl (fun j u h => news_new w2 _ _ j u h) (by simp [Value.oneCell']) (by omega) (by omega) wv.heap.size hbe2 (by simp; omega) ?_; intro b3 cap3 w3 hr3 hbe3 hg3; have HR3 := Lib.hid (row_app1 (by rw [HWR.out] at hr3; exact hr3) (by omega)); have HB3 := Lib.hid ((Below.alloc HB2.out hz2 _).trans (hg3.below hbe2 (by simp; omega))); clear hr3 hg3)
      | (refine step_appB rfl (.tmp 25) (.tmp 30) 22 rfl 5 (.int .u8 0) 1 Try.underlying22 infoB rfl (by decide) b2 cap2 (F + 1 + nm.size) _ (by simp [Act.eval]) HR2.out w1.heap.size 1 1 [.int .u8 (IntKind.u8.wrap (ls.length : Int))] (by simp [Act.eval]) rfl (fun j u h => (HG2.out.cell_other (c := w1.heap.size) (i := j) (by simp) (by have := HR1.out.lt; omega)).trans (show (w1.alloc _).cell? _ = _ from news_new w1 _ _ j u h)) (by simp [Value.oneCell']) (by omega) (by omega) wv.heap.size hbe2 hz2 ?_; intro b3 cap3 w3 hr3 hbe3 hg3; have HR3 := Lib.hid (row_app1 (by rw [HWR.out] at hr3; exact hr3) (by omega)); have HB3 := Lib.hid (HB2.out.trans (hg3.below hbe2 hz2)); clear hr3 hg3))
    all_goals
      go_wp2_with fail
      go_meet
      exact ⟨b3, cap3, rfl, HR3, hbe3, HB3⟩
  case rest =>
    obtain ⟨b3, cap3, rfl, HR3, hbe3, HB3⟩ := hcut
    have hpre : preB nm ls = [79, 85, 84, 49] ++ [UInt8.ofNat nm.size] ++ nm.data.toList ++ [UInt8.ofNat ls.length] ++ lpB ls ls.length := rfl
    have hlen : F + 1 + nm.size + 1 = ([79, 85, 84, 49] ++ [UInt8.ofNat nm.size] ++ nm.data.toList ++ [UInt8.ofNat ls.length]).length := by
      have := HF.out
      simp; omega
    generalize ([79, 85, 84, 49] ++ [UInt8.ofNat nm.size] ++ nm.data.toList ++ [UInt8.ofNat ls.length]) = hd at *
    have hN : F + 1 + nm.size + 1 ≤ 14 := by omega
    generalize F + 1 + nm.size + 1 = N at *
    have HPRE := Lib.hid hpre
    have HLEN := Lib.hid hlen
    have hN' : N = hd.length := hlen
    have hlb := lpB_le ls (fun i hi => (HSH.out i hi).2)
    have HLB := Lib.hid hlb
    clear hpre hlen hN' hlb HR1 HB1 hcc d10 d11 d00 d01
    have d31 := keep_cell HB3.out HP1.out
    have hz3 := HB3.out.size
    go_wp2_with fail
    go_loopw [4, 6, 8, 35] (fun s _ _ i wr => ∃ k b cap : Nat, k ≤ ls.length ∧ i = .int .i64 k ∧ s = .slice (some ⟨b, 0, none⟩) (N + (lpB ls k).length) cap ∧ Hid (ORow wr 5 1 b cap (N + (lpB ls k).length) (Lib.byteCells (hd ++ lpB ls k))) ∧ wv.heap.size ≤ b ∧ Hid (Below wv.heap.size wv wr)) (fun _ _ _ i _ => ls.length - (intOf i).toNat)
    case atStart => exact ⟨0, b3, cap3, by omega, rfl, rfl, by rw [lpB, List.append_nil]; exact HR3.out, hbe3, HB3.out⟩
    case round =>
      obtain ⟨k, b, cap, hk, rfl, rfl, HR, hbb, HW⟩ := hrel
      have hz := HW.out.size
      by_cases hlt : k < ls.length
      · obtain ⟨bo, rfl, _, hbo, hc⟩ := HS.out (by omega)
        obtain ⟨ai, ci, c1, s1⟩ := hc k hlt
        obtain ⟨h3, h64⟩ := HSH.out k hlt
        have hsk := HSM.out k hlt
        have hlbk := HLB.out k (by omega)
        have hsucc : lpB ls (k + 1) = lpB ls k ++ (UInt8.ofNat (lpAt ls k).length :: ptB (lpAt ls k) (lpAt ls k).length) := rfl
        generalize lpAt ls k = l at *
        generalize lpB ls k = lb at *
        obtain ⟨bl, rfl, _, hbl, hcl⟩ := s1 (by omega)
        have HC := Lib.hid c1
        have HCL := Lib.hid hcl
        have HSK := Lib.hid hsk
        have HSU := Lib.hid hsucc
        clear hc c1 s1 hcl hsk hsucc
        have e2 := keep_cell HW.out HC.out
        have j0 : (0 : Int) ≤ (k : Int) := by omega
        have j1 : (k : Int) < (ls.length : Int) := by omega
        have j2 : (l.length : Int) ≤ 64 := by omega
        have j3 : (0 : Int) ≤ (l.length : Int) := by omega
        go_wp2_with (at_builtin; refine wpList_appB rfl _ _ _ rfl 5 (.int .u8 0) 1 Try.underlying22 infoB rfl (by decide) b cap (N + lb.length) _ rfl (HR.out.below (Below.alloc (Below.refl _ _) (Nat.le_refl _) _) HR.out.lt) wr.heap.size 1 1 [.int .u8 (l.length : Int)] rfl rfl (fun j u h => news_new wr _ _ j u h) (by simp [Value.oneCell']) (by omega) (by omega) wv.heap.size hbb (by simp; omega) ?_; intro b4 cap4 w4 hr4 hbe4 hg4; have HR4 := Lib.hid (row_app1 hr4 (by omega)); have hq : Below wv.heap.size wv w4 := (HW.out.trans (Below.alloc (Below.refl _ _) hz _)).trans (hg4.below hbb (by simp; omega)); have HB4 := Lib.hid hq; clear hr4 hg4 hq; have hz4 := HB4.out.size; clear e2)
        go_loopw [4, 8, 47] (fun s _ i wx => ∃ q b cap : Nat, q ≤ l.length ∧ i = .int .i64 q ∧ s = .slice (some ⟨b, 0, none⟩) (N + lb.length + 1 + 8 * q) cap ∧ Hid (ORow wx 5 1 b cap (N + lb.length + 1 + 8 * q) (Lib.byteCells (hd ++ lb ++ [UInt8.ofNat l.length] ++ ptB l q))) ∧ wv.heap.size ≤ b ∧ Hid (Below wv.heap.size wv wx)) (fun _ _ i _ => l.length - (intOf i).toNat)
        case atStart => exact ⟨0, b4, cap4, by omega, rfl, rfl, by rw [ptB, List.append_nil]; exact HR4.out, hbe4, HB4⟩
        case round =>
          obtain ⟨q, b5, cap5, hq, rfl, rfl, HR5, hb5, HW5⟩ := hrel
          have hz5 := HW5.out.size
          by_cases hql : q < l.length
          · have hzc := HCL.out q hql
            unfold cV at hzc
            have f3 := keep_cell HW5.out hzc
            have hst : ptB l (q + 1) = ptB l q ++ (word (cAt l q).1 ++ word (cAt l q).2) := rfl
            obtain ⟨hz1, hz2⟩ := HSK.out q hql
            generalize cAt l q = z at *
            generalize ptB l q = pb at *
            have HST := Lib.hid hst
            have HZC := Lib.hid hzc
            clear hst hzc
            have i0 : (0 : Int) ≤ (q : Int) := by omega
            have i1 : (q : Int) < (l.length : Int) := by omega
            have hy1 := can_lt z.1 hz1
            have hy2 := can_lt z.2 hz2
            have hw1 : word z.1 = leN (can .f32 z.1) 4 := (leN_4 _).symm
            have hw2 : word z.2 = leN (can .f32 z.2) 4 := (leN_4 _).symm
            generalize hx1 : can .f32 z.1 = x1 at *
            generalize hx2 : can .f32 z.2 = x2 at *
            have HX1 := Lib.hid hx1
            have HX2 := Lib.hid hx2
            have HW1 := Lib.hid hw1
            have HW2 := Lib.hid hw2
            clear hx1 hx2 hw1 hw2
            go_wp2_with (first
              | (go_at_call 17; refine (bitsOf z.1 hz1 _).mono ?_; rintro e w' ⟨rfl, hw⟩; rw [hw, HX1.out]; clear hw)
              | (go_at_call 17; refine (bitsOf z.2 hz2 _).mono ?_; rintro e w' ⟨rfl, hw⟩; rw [hw, HX2.out]; clear hw)
              | (go_at_call 16; refine (bytesOf b6 cap6 _ _ x2 4 hy2 (by omega) (by omega) _ HR6.out wv.heap.size hb6 (by have := HW6.out.size; omega)).mono ?_; rintro e w7 ⟨b7, cap7, rfl, hr7, hb7, hbl7⟩; have HR7 := Lib.hid hr7; have HW7 := Lib.hid (HW6.out.trans hbl7); clear hr7 hbl7)
              | (go_at_call 16; refine (bytesOf b5 cap5 _ _ x1 4 hy1 (by omega) (by omega) _ HR5.out wv.heap.size hb5 hz5).mono ?_; rintro e w6 ⟨b6, cap6, rfl, hr6, hb6, hbl6⟩; have HR6 := Lib.hid hr6; have HW6 := Lib.hid (HW5.out.trans hbl6); clear hr6 hbl6))
            have hn8 : N + lb.length + 1 + 8 * q + 4 + 4 = N + lb.length + 1 + 8 * (q + 1) := by omega
            have HR8 := HR7.out
            rw [hn8] at HR8 ⊢
            refine ⟨⟨q + 1, b7, cap7, by omega, by go_num, rfl, ?_, hb7, HW7⟩, by simp [intOf]; omega⟩
            rw [HST.out, HW1.out, HW2.out]
            simp only [List.append_assoc] at HR8 ⊢
            exact HR8
          · have hqq : q = l.length := by omega
            subst hqq
            have HR8 := HR5.out
            have hn8 : N + lb.length + 1 + 8 * l.length = N + (lpB ls (k + 1)).length := by
              rw [HSU.out]; simp [ptB_len]; omega
            go_wp2_with fail
            rw [hn8] at HR8 ⊢
            refine ⟨⟨k + 1, b5, cap5, by omega, by go_num, rfl, ?_, hb5, HW5⟩, by simp [intOf]; omega⟩
            rw [HSU.out]
            rw [HSU.out] at HR8
            simp only [List.append_assoc, List.singleton_append] at HR8 ⊢
            exact HR8
      · have hkk : k = ls.length := by omega
        subst hkk
        have hlb := HLB.out ls.length (Nat.le_refl _)
        have hln := HLEN.out
        have hcv := conv_row HR.out (by rw [hln]; simp)
        rw [← HPRE.out] at hcv
        have HR := HR.out
        rw [← HPRE.out] at HR
        have hpl : (preB nm ls).length = N + (lpB ls ls.length).length := by rw [HPRE.out, hln]; simp
        have hsto : stoB nm ls = preB nm ls ++ [UInt8.ofNat (chkB (preB nm ls)).toNat, UInt8.ofNat ((chkB (preB nm ls)).toNat / 256)] := rfl
        have hcr : 0 ≤ chkB (preB nm ls) ∧ chkB (preB nm ls) < 65003 := chN_range _ _ (by decide) (by decide) _
        have hck : chN 0 ⟨(preB nm ls).toArray⟩ (⟨(preB nm ls).toArray⟩ : ByteArray).size = chkB (preB nm ls) := rfl
        have hsz : (⟨(preB nm ls).toArray⟩ : ByteArray).size = (preB nm ls).length := rfl
        have HSTO := Lib.hid hsto
        clear hsto
        generalize hPP : preB nm ls = pre at *
        generalize hCC : chkB pre = C at *
        obtain ⟨C, rfl⟩ := Int.eq_ofNat_of_zero_le hcr.1
        have HCK := Lib.hid hck
        have HRR := Lib.hid HR
        clear hPP hCC hck HPRE HLEN HR hln
        have hC : C < 65003 := by omega
        have hC32 : C < 4294967296 := by omega
        go_wp2_with (first
          | (go_at_call 18; refine (checkOf 0 (by decide) (by decide) _ (by rw [hsz]; omega) _).mono ?_; rintro e w8 ⟨rfl, hw8⟩; rw [hw8, HCK.out])
          | (go_at_call 16; refine (bytesOf b cap _ _ C 2 hC32 (by omega) (by omega) _ HRR.out wv.heap.size hbb hz).mono ?_; rintro e w9 ⟨b9, cap9, rfl, hr9, hb9, hbl9⟩; have hcv2 := conv_row hr9 (by rw [← hpl]; simp [leN_len]); have HB9 := Lib.hid (HW.out.trans hbl9); clear hr9 hbl9))
        go_ret2
        refine ⟨?_, (Below.trans (by (repeat (first | exact Below.refl _ _ | assumption | refine below_dr ?_ _ | refine Below.alloc ?_ (by first | omega | (simp; done) | (simp; omega)) _ | refine Below.setCell ?_ (by first | omega | (simp; done) | (simp; omega)) _ | refine Below.trans ?_ (Below.mono (by assumption) (by first | omega | (simp; done) | (simp; omega)))))) (HV.out.mono (by simp))).trans (HB9.out.mono (by omega))⟩
        rw [HSTO.out, leN_2]
        rfl
end Go.Proofs.Ytjapidajammkbaa

/- impl.ComplexText, ReadComplex: a text of complex numbers read, the program's. -/
import Derived.Test.YtlpgaekkhlinhaaGreatDoorRnB
import Derived.Test.YtlpgaekkhlinhaaGreatDoorRdC
import Derived.Deep.RegionHeld3
namespace Go.Fl
open Go.RowKit
/-- a complex number at a place -/
def nCx (xs : List Cx) (i : Nat) : Cx := xs.getD i (0, 0)
/-- a slice at ao reads as complex numbers whose bits, not-a-numbers made one, are xs -/
def SlY (w : World) (lo hi : Nat) (ao : Option Addr) (xs : List Cx) : Prop :=
  0 < xs.length → ∃ b off, ao = some ⟨b, off, none⟩ ∧ lo ≤ b ∧ b < hi ∧ ∀ i, i < xs.length → ∃ x y, w.cell? ⟨b, off + i, none⟩ = some (.complex .f32 x y) ∧ x < 4294967296 ∧ y < 4294967296 ∧ can .f32 x = (nCx xs i).1 ∧ can .f32 y = (nCx xs i).2
theorem SlY.far {w w' : World} {lo hi : Nat} {ao : Option Addr} {xs : List Cx} (h : SlY w lo hi ao xs) (hf : Far lo hi w w') : SlY w' lo hi ao xs := fun hp => by
  obtain ⟨b, off, rfl, h1, h2, hc⟩ := h hp
  refine ⟨b, off, rfl, h1, h2, fun i hi => ?_⟩
  obtain ⟨x, y, c, z⟩ := hc i hi
  exact ⟨x, y, (hf.cell h1 h2).trans c, z⟩
/-- the text of complex numbers -/
def cxT (xs : List Cx) : List UInt8 := textL (xs.map hex2)
/-- the hexadecimal texts of complex numbers -/
def hexS2 (xs : List Cx) : List ByteArray := xs.map fun x => ⟨(hex2 x).toArray⟩
theorem hexS2_text (xs : List Cx) : textL (bytesL (hexS2 xs)) = cxT xs := by
  simp [bytesL, hexS2, cxT, List.map_map, Function.comp_def]
theorem hexS2_len (xs : List Cx) : (hexS2 xs).length = xs.length := by simp [hexS2]
theorem hexS2_size (xs : List Cx) (i : Nat) (hi : i < (hexS2 xs).length) : (sAt (hexS2 xs) i).size ≤ 64 := by
  rw [sAt_get hi]
  simp only [hexS2, List.getElem_map]
  show (hex2 _).length ≤ 64
  rw [texts2.len]; decide
theorem hexS2_take {xs : List Cx} {k : Nat} (h : k < xs.length) : hexS2 (xs.take (k + 1)) = hexS2 (xs.take k) ++ [⟨(hexK (nCx xs k).1 8 ++ hexK (nCx xs k).2 8).toArray⟩] := by
  rw [hexS2, List.take_succ_eq_append_getElem h, List.map_append]
  simp [hexS2, hex2, nCx, h]
theorem app_row {w : World} {e : TypeId} {size b cap n : Nat} {l : List Value} {u v : Value} (h : ORow w e size b cap n (l ++ #[u].toList)) (hv : u = v) : ORow w e size b cap n (l ++ [v]) := hv ▸ h
/-- both parts, not-a-numbers made one -/
def canC (z : Cx) : Cx := (can .f32 z.1, can .f32 z.2)
def Lt64 (z : Cx) : Prop := z.1 < 4294967296 ∧ z.2 < 4294967296
theorem ORow.rawC {w : World} {e : TypeId} {b cap n : Nat} {ms : List Cx} (h : ORow w e 1 b cap n (ms.map cV)) (hs : ∀ m ∈ ms, Lt64 m) : SlY w b (b + 1) (some ⟨b, 0, none⟩) (ms.map canC) := fun _ =>
  ⟨b, 0, rfl, Nat.le_refl _, Nat.lt_succ_self _, fun i hi => by
    have hl := h.1
    rw [List.length_map] at hl
    rw [List.length_map] at hi
    have hm := hs _ (List.getElem_mem hi)
    refine ⟨ms[i].1, ms[i].2, ?_, hm.1, hm.2, ?_, ?_⟩
    · rw [Nat.zero_add, h.cell i (by omega)]
      simp [hi, cV]
    · simp [nCx, hi, canC]
    · simp [nCx, hi, canC]⟩
theorem map_canC_self {xs : List Cx} (h : ∀ x ∈ xs, Own2 x) : xs.map canC = xs := by
  induction xs with
  | nil => rfl
  | cons x xs ih =>
    have := h x (by simp)
    rw [List.map_cons, ih fun y hy => h y (by simp [hy])]
    simp [canC, this.1.2, this.2.2]
theorem reads_of_textC {s : List UInt8} {ms : List Cx} (hl : ms.length ≤ 256) (hs : ∀ m ∈ ms, Lt64 m) (h : cxT (ms.map canC) = s) : Reads hex2 Own2 s (ms.map canC) := by
  refine ⟨by simpa using hl, fun x hx => ?_, h.symm⟩
  obtain ⟨m, hm, rfl⟩ := List.mem_map.1 hx
  exact ⟨⟨can_lt _ (hs m hm).1, can_idem _⟩, ⟨can_lt _ (hs m hm).2, can_idem _⟩⟩
end Go.Fl
namespace Go.Proofs.YtlpgaekkhlinhaaGreatDoor
open Go.RowKit Go.Fl

set_option maxHeartbeats 1000000 in
theorem complexText (lo hi : Nat) (ao : Option Addr) (c : Nat) (xs : List Cx) (hn : xs.length ≤ 256) (w : World) (hs : SlY w lo hi ao xs) (hh : hi ≤ w.heap.size) (h : Tz w) :
    Calls Tryz.prog 50 #[.slice ao xs.length c] w fun e w' => e = .returned (.tuple #[.string ⟨(cxT xs).toArray⟩, .bool true]) ∧ Below w.heap.size w w' := by
  have HS := Lib.hid hs
  have HT := Lib.hid h
  clear hs h
  have f1 : ¬ (256 : Int) < (xs.length : Int) := by omega
  go_enter Tryz.func50, Tryz.ntmps50
  go_wp2_with fail
  go_loopw [4, 13] (fun out i wr => ∃ k b cap : Nat, k ≤ xs.length ∧ i = .int .i64 k ∧ out = .slice (some ⟨b, 0, none⟩) k cap ∧ Hid (ORow wr 9 1 b cap k ((hexS2 (xs.take k)).map Value.string)) ∧ w.heap.size ≤ b ∧ Hid (Below w.heap.size w wr)) (fun _ i _ => xs.length - (intOf i).toNat)
  case atStart => exact ⟨0, w.heap.size, 0, by omega, rfl, rfl, ORow.new w _ _, Nat.le_refl _, Below.alloc (Below.refl _ _) (Nat.le_refl _) _⟩
  case round =>
    obtain ⟨k, b, cap, hk, rfl, rfl, HR, hbb, HW⟩ := hrel
    have hz := HW.out.size
    by_cases hlt : k < xs.length
    · obtain ⟨b1, o1, rfl, q0, q1, hc1⟩ := HS.out.far (Far.below HW.out hh) (by omega)
      obtain ⟨x, y, c1, z1, z2, e1⟩ := hc1 k hlt
      have s1 : ¬ (hexK (nCx xs k).1 8).length + (hexK (nCx xs k).2 8).length > 9223372036854775807 := by rw [hexK_length, hexK_length]; omega
      have HE := Lib.hid e1
      have HX := Lib.hid (hexS2_take hlt)
      clear hc1 e1
      have k0 : (0 : Int) ≤ (k : Int) := by omega
      have k1 : (k : Int) < (xs.length : Int) := by omega
      obtain ⟨e1, e2⟩ := HE.out
      have HE1 := Lib.hid e1
      have HE2 := Lib.hid e2
      clear e1 e2
      go_wp2_with fail
      refine (hexOf x z1 _ (HT.out.on HW.out)).mono ?_
      rintro e w2 ⟨rfl, hb2⟩
      rw [HE1.out]
      have hz2 := hb2.size
      have HB2 := Lib.hid (HW.out.trans (hb2.mono hz))
      have HR2 := Lib.hid (HR.out.below hb2 HR.out.lt)
      clear hb2
      go_wp2_with fail
      refine (hexOf y z2 _ (HT.out.on HB2.out)).mono ?_
      rintro e w4 ⟨rfl, hb4⟩
      rw [HE2.out]
      have hz4 := hb4.size
      have HB4 := Lib.hid (HB2.out.trans (hb4.mono (by omega)))
      have HR4 := Lib.hid (HR2.out.below hb4 HR2.out.lt)
      clear hb4
      go_wp2_with (at_builtin; refine wpList_app rfl _ _ _ rfl 9 (.string ⟨#[]⟩) 1 16 Tryz.underlying67 infoStr rfl (by decide) _ #[_] 9 rfl (by simp [Value.oneCell']) b cap _ _ rfl rfl HR4.out (by omega) (by decide) ?_; intro b' cap' w3 hr hg hgr)
      go_roundw
      case rel =>
        refine ⟨k + 1, b', cap', by omega, by go_num, rfl, ?_, by omega, ?_⟩
        · rw [HX.out, List.map_append]; exact app_row hr (app_two _ _)
        · exact HB4.out.trans (hgr.below hbb (by omega))
      case measure => simp [intOf]; omega
    · have hkk : k = xs.length := by omega
      subst hkk
      have HRX := Lib.hid (show ORow wr 9 1 b cap xs.length ((hexS2 xs).map Value.string) by have := HR.out; rw [List.take_length] at this; exact this)
      have hcap := HRX.out.cap
      have hlt := HRX.out.lt
      have HJ := Lib.hid (show Calls Tryz.prog 76 #[.slice (some ⟨b, 0, none⟩) xs.length cap] wr fun e w' => e = .returned (.string ⟨(cxT xs).toArray⟩) ∧ Below wr.heap.size wr w' by
        have := joined b (b + 1) cap (some ⟨b, 0, none⟩) (hexS2 xs) (by rw [hexS2_len]; omega) (by rw [hexS2_len]; omega) (hexS2_size xs) wr HRX.out.strs (by omega)
        rw [hexS2_len, strT, hexS2_text] at this
        exact this)
      go_wp2_with (go_at_call 76; refine HJ.out.mono ?_; rintro e w4 ⟨rfl, hb4⟩)
      go_ret2
      exact ⟨rfl, HW.out.trans (hb4.mono hz)⟩

set_option maxHeartbeats 4000000 in
set_option maxRecDepth 100000 in
theorem readComplex (s : ByteArray) (hs : s.size ≤ 1048576) (w : World) (hm : Mx w) (he : Er w) (ht : Tz w) :
    Calls Tryz.prog 23 #[.string s] w fun e w' => (∀ xs, Reads hex2 Own2 s.data.toList xs → ∃ b cap, e = .returned (.tuple #[.slice (some ⟨b, 0, none⟩) xs.length cap, .bool true]) ∧ ORow w' 74 1 b cap xs.length (xs.map cV) ∧ w.heap.size ≤ b) ∧
      ((∀ xs, ¬ Reads hex2 Own2 s.data.toList xs) → e = .returned (.tuple #[.slice none 0 0, .bool false])) ∧ Below w.heap.size w w' := by
  have HM := Lib.hid hm
  have HE := Lib.hid he
  have HT := Lib.hid ht
  clear hm he ht
  have HB0 := Lib.hid (show Below w.heap.size w (w.alloc (.cells #[] 74)) from Below.alloc (Below.refl _ w) (Nat.le_refl _) _)
  have HO0 := Lib.hid (ORow.new w 74 1)
  by_cases hnone : s.data.toList = noneL
  · have HNT := Lib.hid (complexText w.heap.size (w.heap.size + 1) (some ⟨w.heap.size, 0, none⟩) 0 [] (by simp) (w.alloc (.cells #[] 74)) (fun h => absurd h (Nat.not_lt_zero _)) (by simp) (HT.out.on HB0.out))
    have hq : ([110, 111, 110, 101] == s.toList) = true := by rw [ByteArray.toList_eq, hnone]; rfl
    have hq2 : ((cxT []) == s.toList) = true := hq
    have HN := Lib.hid hnone
    clear hnone
    go_enter Tryz.func23, Tryz.ntmps23
    go_wp2_with fail
    refine (pieces_none s HN.out _).mono ?_
    rintro e w1 ⟨rfl, hw⟩
    rw [hw]
    clear hw
    go_wp2_with fail
    refine wp_loop_rounds 1 ?_
    rw [rounds_succ]
    go_wp2_with fail
    refine HNT.out.mono ?_
    rintro e w2 ⟨rfl, hb2⟩
    have HB2 := Lib.hid (HB0.out.trans (hb2.mono (by simp)))
    have HO2 := Lib.hid (HO0.out.below hb2 (by simp))
    clear hb2
    go_wp2_with fail
    go_ret2
    refine ⟨fun xs h => ?_, fun h => absurd (Reads.nil HN.out) (h []), HB2.out⟩
    obtain rfl : xs = [] := (h.none texts2).1 HN.out
    exact ⟨_, _, rfl, HO2.out, Nat.le_refl _⟩
  · have HNE := Lib.hid hnone
    have hpl : (pieces s 44).length ≤ s.size + 1 := by
      have := stR_len s 44 (j := s.size + 1) (Nat.le_refl _)
      rw [stR_all] at this; exact this
    clear hnone
    go_enter Tryz.func23, Tryz.ntmps23
    go_wp2_with fail
    refine (pieces_some s hs HNE.out _ (HM.out.on HB0.out)).mono ?_
    rintro e w1 ⟨rfl, hst, hz1, hb1⟩
    simp only [World.size_alloc] at hst hz1
    have HST := Lib.hid hst
    have HB1 := Lib.hid (HB0.out.trans (hb1.mono (by simp)))
    have HO1 := Lib.hid (HO0.out.below hb1 (by simp))
    clear hst hb1
    go_wp2_with fail
    go_loopw [4, 13] (fun out i wr => ∃ (k b cap : Nat) (ms : List Cx), k ≤ (pieces s 44).length ∧ i = .int .i64 k ∧ out = .slice (some ⟨b, 0, none⟩) k cap ∧ Hid (Sofar hex2 Own2 Lt64 s.data.toList k ms) ∧ Hid (ORow wr 74 1 b cap k (ms.map cV)) ∧ Hid (SlT wr (w.heap.size + 1) (w.heap.size + 1 + 1) (some ⟨w.heap.size + 1, 0, none⟩) (pieces s 44)) ∧ w.heap.size ≤ b ∧ b ≠ w.heap.size + 1 ∧ w.heap.size + 1 < wr.heap.size ∧ Hid (Below w.heap.size w wr)) (fun _ i _ => (pieces s 44).length - (intOf i).toNat)
    case atStart => exact ⟨0, w.heap.size, 0, [], by omega, rfl, rfl, Sofar.zero _ _ _ _, HO1, HST, Nat.le_refl _, by omega, by omega, HB1⟩
    case round =>
      obtain ⟨k, b, cap, ms, hk, rfl, rfl, HG, HR, HP, hbb, hbne, hzr, HW⟩ := hrel
      have hz := HW.out.size
      have hfew := HG.out.few
      by_cases hlt : k < (pieces s 44).length
      · obtain ⟨bp, op, hbo, _, _, hc⟩ := HP.out (by omega)
        obtain ⟨rfl, rfl⟩ : w.heap.size + 1 = bp ∧ 0 = op := by cases hbo; exact ⟨rfl, rfl⟩
        have c1 := hc k hlt
        rw [Nat.zero_add] at c1
        have HNR : Hid ((∀ x, Own2 x → (sAt (pieces s 44) k).data.toList ≠ hex2 x) → ∀ xs, ¬ Reads hex2 Own2 s.data.toList xs) := Lib.hid fun h xs => no_reads texts2 HNE.out hlt h xs
        have HGS : Hid (k ≠ 256 → ∀ x, Lt64 x → (∀ n, Own2 n → (sAt (pieces s 44) k).data.toList = hex2 n → x = n) → Sofar hex2 Own2 Lt64 s.data.toList (k + 1) (ms ++ [x])) := Lib.hid fun h0 x h1 h2 => HG.out.succ texts2 HNE.out hlt h0 h1 h2
        generalize hL : sAt (pieces s 44) k = L at *
        have k0 : (0 : Int) ≤ (k : Int) := by omega
        have k1 : (k : Int) < ((pieces s 44).length : Int) := by omega
        clear hL hc hbo
        by_cases h8 : L.size = 16
        · have h8b : ((L.size : Int) != 16) = false := by rw [h8]; rfl
          have H8 := Lib.hid h8
          by_cases h256 : k = 256
          · have hb : ((k : Int) == 256) = true := by rw [h256]; rfl
            have HNO : Hid (∀ xs, ¬ Reads hex2 Own2 s.data.toList xs) := Lib.hid (many_reads texts2 HNE.out (by omega))
            clear h8 h256
            go_wp2_with fail
            go_ret2
            exact ⟨fun xs h => absurd h (HNO.out xs), fun _ => rfl, HW.out⟩
          · have hb : ((k : Int) == 256) = false := by simp; omega
            have HGS2 := Lib.hid (HGS.out h256)
            have hA1 : (L.extract 0 8).size = 8 := by rw [ByteArray.size_extract]; omega
            have hA2 : (L.extract 8 16).size = 8 := by rw [ByteArray.size_extract]; omega
            have hsp : L.data.toList = (L.extract 0 8).data.toList ++ (L.extract 8 16).data.toList := by have := split16 L h8; rwa [h8] at this
            have HSP := Lib.hid hsp
            have g0 : (8 : Int) ≤ (L.size : Int) := by omega
            have hl16 : (L.size : Int) = 16 := by omega
            generalize hE1 : L.extract 0 8 = L1 at HSP hA1 hsp
            generalize hE2 : L.extract 8 16 = L2 at HSP hA2 hsp
            have HE1 := Lib.hid hE1
            have HE2 := Lib.hid hE2
            have HX1 := Lib.hid (fun w0 (q : Below w.heap.size w w0) => readHex L1 hA1 w0 (HE.out.on q))
            have HX2 := Lib.hid (fun w0 (q : Below w.heap.size w w0) => readHex L2 hA2 w0 (HE.out.on q))
            have HA1 := Lib.hid hA1
            clear h256 hsp hA1 hA2 hE1 hE2
            go_wp2_with fail
            go_region_held3 (fun w' => True) (first | go_keep | (exact trivial)) (first
              | (go_at_call 49; first
                | (rw [HE1.out]; refine (HX1.out _ (by first | exact HW.out | exact below_dr HW.out 1)).mono ?_; rintro e w4 ⟨⟨m1, hm1, hu1, rfl⟩, hb4⟩; have HM1 := Lib.hid hm1; have HU1 := Lib.hid hu1; have HB4 := Lib.hid (show Below wr.heap.size wr w4 from ⟨hb4.os, hb4.tape, hb4.output, hb4.size, hb4.block⟩); clear hm1 hu1 hb4)
                | (rw [HE2.out]; refine (HX2.out _ (HW.out.trans (HB4.out.mono hz))).mono ?_; rintro e w5 ⟨⟨m2, hm2, hu2, rfl⟩, hb5⟩; have HM2 := Lib.hid hm2; have HU2 := Lib.hid hu2; have HB5 := Lib.hid (HB4.out.trans (hb5.mono HB4.out.size)); clear hm2 hu2 hb5))
              | (refine step_appB rfl (.tmp 25) (.tmp 33) 22 rfl 74 (.complex .f32 0 0) 8 Tryz.underlying22 infoC rfl (by decide) b cap k _ (by simp [Act.eval]) ((HR.out.below HB5.out HR.out.lt).below (Below.alloc (Below.refl _ w5) (Nat.le_refl _) _) (Nat.lt_of_lt_of_le HR.out.lt HB5.out.size)) w5.heap.size 1 1 [.complex .f32 m1 m2] (by simp [Act.eval]) rfl (fun j u h => news_new w5 #[.complex .f32 m1 m2] _ j u h) (by simp [Value.oneCell']) (by decide) (by omega) w.heap.size hbb (by have := HB5.out.size; simp; omega) ?_; intro b' cap' w6 hr6 hb6 hg6))
            have hx : ∀ n, Own2 n → L.data.toList = hex2 n → ((m1, m2) : Cx) = n := fun n hn h => by
              obtain ⟨p1, p2⟩ := two_parts HSP.out h (by rw [size_list]; exact HA1.out)
              exact Prod.ext (HU1.out n.1 hn.1.1 p1) (HU2.out n.2 hn.2.1 p2)
            have HG2 := Lib.hid (HGS2.out (m1, m2) ⟨HM1.out, HM2.out⟩ hx)
            have hz5 := HB5.out.size
            have hrl2 := HR.out.lt
            have hgz := hg6.size
            simp at hgz
            have HP5 := Lib.hid (HP.out.far (Far.below HB5.out (by omega)))
            have HB6 := Lib.hid (HW.out.trans ((Below.alloc (HB5.out.mono hz) (by omega) (.cells #[.complex .f32 m1 m2] 74)).trans (hg6.below hbb (by simp; omega))))
            have HP6 := Lib.hid (HP5.out.far (((Far.refl _ _ w5).alloc (.cells #[.complex .f32 m1 m2] 74) (by omega)).trans (hg6.far (by simp; omega) (by omega))))
            go_wp2_with fail
            go_roundw
            case rel =>
              refine ⟨k + 1, b', cap', ms ++ [(m1, m2)], by omega, by go_num, rfl, HG2, ?_, HP6, by omega, ?_, by omega, HB6⟩
              · rw [List.map_append]; exact Lib.hid hr6
              · intro e
                subst e
                obtain ⟨bp, op, hbo, _, _, hc⟩ := HP6.out (by omega)
                have hc0 := hc 0 (by omega)
                obtain ⟨rfl, rfl⟩ : w.heap.size + 1 = bp ∧ 0 = op := by cases hbo; exact ⟨rfl, rfl⟩
                have hq := hr6.cell 0 (by omega)
                rw [hc0] at hq
                cases ms with
                | nil => simp at hq
                | cons z r => simp [cV] at hq
            case measure => simp [intOf]; omega
        · have h8b : ((L.size : Int) != 16) = true := by simp; omega
          have hno : ∀ x, Own2 x → L.data.toList ≠ hex2 x := fun x _ h => h8 (by rw [← size_list, h]; exact texts2.len x)
          have HNO := Lib.hid (HNR.out hno)
          clear hno h8
          go_wp2_with fail
          go_ret2
          exact ⟨fun xs h => absurd h (HNO.out xs), fun _ => rfl, HW.out⟩
      · have hkk : k = (pieces s 44).length := by omega
        subst hkk
        have hl := HG.out.len
        have HNT := Lib.hid (show Calls Tryz.prog 50 #[.slice (some ⟨b, 0, none⟩) (pieces s 44).length cap] wr fun e w' => e = .returned (.tuple #[.string ⟨(cxT (ms.map canC)).toArray⟩, .bool true]) ∧ Below wr.heap.size wr w' by
          have := complexText b (b + 1) (some ⟨b, 0, none⟩) cap (ms.map canC) (by rw [List.length_map]; omega) wr (HR.out.rawC HG.out.lt) HR.out.lt (HT.out.on HW.out)
          rw [List.length_map, hl] at this
          exact this)
        have HALL := Lib.hid (HG.out.all texts2 HNE.out)
        cases hq : ((cxT (ms.map canC)) == s.toList)
        · have HNO : Hid (∀ xs, ¬ Reads hex2 Own2 s.data.toList xs) := Lib.hid fun xs h => by
            have e1 := HALL.out xs h
            subst e1
            rw [map_canC_self h.2.1] at hq
            have : s.toList = cxT ms := by rw [ByteArray.toList_eq]; exact h.2.2
            rw [this] at hq
            simp at hq
          go_wp2_with (go_at_call 50; refine HNT.out.mono ?_; rintro e w5 ⟨rfl, hb5⟩)
          go_ret2
          exact ⟨fun xs h => absurd h (HNO.out xs), fun _ => rfl, HW.out.trans (hb5.mono hz)⟩
        · have hrd : Reads hex2 Own2 s.data.toList (ms.map canC) := reads_of_textC (by omega) HG.out.lt (by rw [← ByteArray.toList_eq]; exact eq_of_beq hq)
          have HRD := Lib.hid hrd
          clear hrd
          go_wp2_with (go_at_call 50; refine HNT.out.mono ?_; rintro e w5 ⟨rfl, hb5⟩)
          have HR5 := Lib.hid (HR.out.below hb5 HR.out.lt)
          go_ret2
          refine ⟨fun xs h => ?_, fun h => absurd HRD.out (h _), HW.out.trans (hb5.mono hz)⟩
          obtain rfl := HALL.out xs h
          exact ⟨b, cap, by rw [hl]; rfl, by rw [hl]; exact HR5.out, hbb⟩
end Go.Proofs.YtlpgaekkhlinhaaGreatDoor

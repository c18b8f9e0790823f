/- An outline's bytes: the reference's l07Store. -/
import Derived.Test.YtenamfkggeeacaaOSt2
import Derived.Test.YtenamfkggeeacaaOGro
namespace Go.Fl
open Go.RowKit
theorem ptB_len (l : List Cx) : ∀ k, (ptB l k).length = 8 * k
  | 0 => rfl
  | k + 1 => by simp [ptB, ptB_len l k, word, le4]; omega
theorem lpB_le (ls : List (List Cx)) (h : ∀ i, i < ls.length → (lpAt ls i).length ≤ 64) : ∀ k, k ≤ ls.length → (lpB ls k).length ≤ 513 * k
  | 0, _ => Nat.le_refl _
  | k + 1, hk => by
    have h1 := lpB_le ls h k (by omega)
    have h2 := h k (by omega)
    simp [lpB, ptB_len]; omega
/-- the parts have 32 bits -/
def Sm (ls : List (List Cx)) : Prop := ∀ i, i < ls.length → ∀ k, k < (lpAt ls i).length → (cAt (lpAt ls i) k).1 < 4294967296 ∧ (cAt (lpAt ls i) k).2 < 4294967296
theorem okOut_short {nm : ByteArray} {ls : List (List Cx)} (h : okOut nm ls) : ∀ i, i < ls.length → 3 ≤ (lpAt ls i).length ∧ (lpAt ls i).length ≤ 64 := fun i hi => by
  have h1 := List.all_eq_true.1 h.2.2.2 ls[i] (List.getElem_mem hi)
  have h2 : lpAt ls i = ls[i] := by simp [lpAt, hi]
  simp [okLoop] at h1
  rw [h2]; omega
theorem u8c (n : Nat) : Value.int .u8 (((UInt8.ofNat n).toNat : Nat) : Int) = .int .u8 ((n : Int) % 256) := by
  rw [UInt8.toNat_ofNat']
  congr 1
theorem u8s (n : Nat) (h : n ≤ 255) : Lib.byteCells [UInt8.ofNat n] = [.int .u8 (n : Int)] := by
  simp only [Lib.byteCells, List.map_cons, List.map_nil, u8c]
  congr 2
  omega
/-- the cells of a string's bytes made new -/
theorem bytes_cell (w : World) (s : ByteArray) (cap : Nat) (T : TypeId) (fr : Nat × Nat) (j : Nat) (u : Value) (h : (Lib.byteCells s.data.toList)[j]? = some u) : (w.alloc (.cells (bytesRow s cap) T fr)).cell? ⟨w.heap.size, j, none⟩ = some u := by
  rw [World.cell?_alloc_mark]
  have hj : j < s.data.size := by
    have := (List.getElem?_eq_some_iff.1 h).1
    simpa [Lib.byteCells] using this
  rw [bytesRow_at s cap j hj]
  have hj2 : j < s.data.toList.length := by simpa using hj
  rw [Lib.byteCells, List.getElem?_map, List.getElem?_eq_getElem hj2] at h
  simpa using h
theorem mark_cell (w : World) (o : Obj) (j : Nat) (u : Value) (h : (Lib.byteCells [79, 85, 84, 49])[j]? = some u) {T : TypeId} : ((w.alloc (.cells #[.int .u8 79, .int .u8 85, .int .u8 84, .int .u8 49] T (4, 5))).alloc o).cell? ⟨w.heap.size, j, none⟩ = some u := by
  have hb : Below (w.heap.size + 1) (w.alloc (.cells #[.int .u8 79, .int .u8 85, .int .u8 84, .int .u8 49] T (4, 5))) ((w.alloc (.cells #[.int .u8 79, .int .u8 85, .int .u8 84, .int .u8 49] T (4, 5))).alloc o) := Below.alloc (Below.refl _ _) (by simp) _
  rw [hb.cell (p := ⟨w.heap.size, j, none⟩) (Nat.lt_succ_self _), World.cell?_alloc_mark]
  rw [← h, ← Array.getElem?_toList]
  rfl
theorem one_cell (w : World) (o : Obj) (cs : Array Value) {T : TypeId} (j : Nat) (u : Value) (h : cs.toList[j]? = some u) : ((w.alloc o).alloc (.cells cs T)).cell? ⟨w.heap.size + 1, j, none⟩ = some u := by
  have := news_new (w.alloc o) cs T j u h
  simpa using this
theorem row_app {w : World} {T : TypeId} {b cap n : Nat} {l m : List UInt8} (h : ORow w T 1 b cap n (Lib.byteCells l ++ Lib.byteCells m)) : ORow w T 1 b cap n (Lib.byteCells (l ++ m)) := by
  rw [Lib.byteCells_append]; exact h
theorem row_app1 {w : World} {T : TypeId} {b cap n m : Nat} {l : List UInt8} (h : ORow w T 1 b cap n (Lib.byteCells l ++ [.int .u8 (m : Int)])) (hm : m ≤ 255) : ORow w T 1 b cap n (Lib.byteCells (l ++ [UInt8.ofNat m])) := by
  rw [Lib.byteCells_append, u8s m hm]; exact h
theorem row_mark {w : World} {T : TypeId} {b cap n m : Nat} (h : ORow w T 1 b cap n (Lib.byteCells [79, 85, 84, 49] ++ [.int .u8 (m : Int)])) (hm : m ≤ 255) : ORow w T 1 b cap n (Lib.byteCells ([79, 85, 84, 49] ++ [UInt8.ofNat m])) := by
  rw [Lib.byteCells_append, u8s m hm]; exact h
end Go.Fl
namespace Go.Proofs.Ytenamfkggeeacaa
open Go.RowKit Go.Fl

theorem conv_row {w : World} {b cap n : Nat} {l : List UInt8} (h : ORow w 5 1 b cap n (Lib.byteCells l)) (hn : n = l.length) :
    (convert 56 9 (.slice (some ⟨b, 0, none⟩) n cap)).run Try.prog w = .ok (.string ⟨l.toArray⟩) w := by
  subst hn
  refine run_convert_bytes_back w _ _ 5 ⟨b, 0, none⟩ cap l Try.underlying56 Try.underlying5 Try.underlying9 (fun j hj => ?_)
  have hadd : (⟨b, 0, none⟩ : Addr).add j = ⟨b, j, none⟩ := by unfold Addr.add; split <;> simp_all
  rw [hadd, h.cell j (by omega)]
  simp [Lib.byteCells, hj]

set_option maxHeartbeats 2000000 in
set_option maxRecDepth 100000 in
theorem l07Store (lo hi p : Nat) (ao : Option Addr) (c : Nat) (nm : ByteArray) (ls : List (List Cx)) (hok : okOut nm ls) (hsm : Sm ls) (w : World)
    (hp0 : w.cell? ⟨p, 0, none⟩ = some (.string nm)) (hp1 : w.cell? ⟨p, 1, none⟩ = some (.slice ao ls.length c)) (hs : SlL w lo hi ao ls) (hh : hi ≤ w.heap.size) :
    Calls Try.prog 23 #[.pointer (some ⟨p, 0, none⟩)] w fun e w' => e = .returned (.string ⟨(stoB nm ls).toArray⟩) ∧ Below w.heap.size w w' := by
  have HS := Lib.hid hs
  have HSM := Lib.hid hsm
  have HSH := Lib.hid (okOut_short hok)
  have hnm1 := hok.1.2.1
  have hnm8 := hok.1.2.2
  have hl1 := hok.2.1
  have hl4 := hok.2.2.1
  have hplt := World.block_lt_of_cell? w _ hp0
  have hplt' : p < w.heap.size := hplt
  have HP0 := Lib.hid hp0
  have HP1 := Lib.hid hp1
  obtain ⟨F, hF4⟩ : ∃ F : Nat, F = 4 := ⟨4, rfl⟩
  have hcc : ∀ W : World, (convert 56 56 (.slice (some ⟨W.heap.size, 0, none⟩) 4 4)).run Try.prog (W.alloc (.cells #[.int .u8 79, .int .u8 85, .int .u8 84, .int .u8 49] 5)) = .ok (.slice (some ⟨W.heap.size, 0, none⟩) F F) (W.alloc (.cells #[.int .u8 79, .int .u8 85, .int .u8 84, .int .u8 49] 5 (4, 5))) := fun W => by
    rw [hF4]
    exact Lib.run_convert_bytes_const (P := Try.prog) W 56 5 #[.int .u8 79, .int .u8 85, .int .u8 84, .int .u8 49] 4 4 Try.underlying56 Try.underlying5
  have HF := Lib.hid hF4
  have hF : F ≤ 4 := by omega
  have hF' : 4 ≤ F := by omega
  clear hF4
  clear hs hsm hok hplt
  have hcs : ∀ W : World, (convert 9 56 (.string nm)).run Try.prog W = _ := fun W => run_bytes_of_string (P := Try.prog) W 9 56 5 nm Try.underlying9 Try.underlying56 Try.underlying5
  go_enter Try.func23, Try.ntmps23
  have n0 : (nm.size : Int) ≤ 8 := by omega
  have n1 : (0 : Int) ≤ (nm.size : Int) := by omega
  have k0 : (0 : Int) ≤ (ls.length : Int) := by omega
  have k1 : (ls.length : Int) ≤ 4 := by omega
  go_wp2_with (first | ((at_builtin; refine wpList_appB rfl _ _ _ rfl 5 (.int .u8 0) 1 Try.underlying56 infoB rfl (by decide) b2 cap2 (F + 1 + nm.size) _ rfl (HR2.out.below (Below.alloc (Below.refl _ _) (Nat.le_refl _) _) HR2.out.lt) w2.heap.size 1 1 [.int .u8 (ls.length : Int)] rfl rfl (fun j u h => news_new w2 _ _ j u h) (by simp [Value.oneCell']) (by omega) (by omega) w.heap.size hbe2 (by simp; omega) ?_; intro b3 cap3 w3 hr3 hbe3 hg3; have HR3 := Lib.hid (row_app1 hr3 (by omega)); have hq : Below w.heap.size w w3 := (HB2.out.trans (Below.alloc (Below.refl _ _) hz2 _)).trans (hg3.below hbe2 (by simp; omega)); have HB3 := Lib.hid hq; clear hr3 hg3 hq; have hz3 := HB3.out.size; have d30 := keep_cell HB3.out HP0.out; have d31 := keep_cell HB3.out HP1.out; clear d20 d21)) | (at_builtin; refine wpList_appB rfl _ _ _ rfl 5 (.int .u8 0) 1 Try.underlying56 infoB rfl (by decide) b1 cap1 (F + 1) _ rfl (HR1.out.below ((Below.alloc (Below.refl _ _) (Nat.le_refl _) _).drew) HR1.out.lt) w1.heap.size nm.size (grownCap w1 nm.size 0 5) (Lib.byteCells nm.data.toList) rfl (by simp [Lib.byteCells]) (fun j u h => (show (w1.alloc _).cell? _ = _ from bytes_cell w1 nm _ _ _ j u h)) (by simp [Lib.byteCells, Value.oneCell']) (by omega) (by omega) w.heap.size hbe1 (by simp; omega) ?_; intro b2 cap2 w2 hr2 hbe2 hg2; have HR2 := Lib.hid (row_app hr2); have hq : Below w.heap.size w w2 := (HB1.out.trans (((Below.alloc (Below.refl _ _) hz1 _).drew))).trans (hg2.below hbe1 (by simp; omega)); have HB2 := Lib.hid hq; clear hr2 hg2 hq; have hz2 := HB2.out.size; have d20 := keep_cell HB2.out HP0.out; have d21 := keep_cell HB2.out HP1.out; clear d10 d11) | (at_builtin; refine wpList_appG rfl _ _ _ rfl 5 Try.underlying56 infoB w.heap.size F (Lib.byteCells [79, 85, 84, 49]) rfl (by rw [HF.out]; rfl) (fun j u h => mark_cell w _ j u h) (w.heap.size + 1) 1 1 [.int .u8 (nm.size : Int)] rfl rfl (fun j u h => one_cell w _ _ j u h) (by simp [Value.oneCell']) (by omega) (by omega) ?_; intro b1 cap1 w1 hr1 hbb1 hb1; have hbe1 : w.heap.size ≤ b1 := (by simp at hbb1; omega); clear hbb1; have HR1 := Lib.hid (row_mark hr1 (by omega)); have hq1 : Below w.heap.size _ w1 := hb1.mono (by first | (simp; done) | (simp; omega)); have hq0 : Below w.heap.size w w1 := Below.trans (by (repeat (first | exact Below.refl _ _ | assumption | refine below_dr ?_ _ | refine Below.alloc ?_ (by first | omega | (simp; done) | (simp; omega)) _ | refine Below.setCell ?_ (by first | omega | (simp; done) | (simp; omega)) _ | refine Below.trans ?_ (Below.mono (by assumption) (by first | omega | (simp; done) | (simp; omega)))))) hq1; have HB1 := Lib.hid hq0; clear hq0 hq1; clear hr1 hb1; have hz1 := HB1.out.size; have d10 := keep_cell HB1.out HP0.out; have d11 := keep_cell HB1.out HP1.out))
  have hpre : preB nm ls = [79, 85, 84, 49] ++ [UInt8.ofNat nm.size] ++ nm.data.toList ++ [UInt8.ofNat ls.length] ++ lpB ls ls.length := rfl
  have hlen : F + 1 + nm.size + 1 = ([79, 85, 84, 49] ++ [UInt8.ofNat nm.size] ++ nm.data.toList ++ [UInt8.ofNat ls.length]).length := by
    have := HF.out
    simp; omega
  generalize ([79, 85, 84, 49] ++ [UInt8.ofNat nm.size] ++ nm.data.toList ++ [UInt8.ofNat ls.length]) = hd at *
  have hN : F + 1 + nm.size + 1 ≤ 14 := by omega
  generalize F + 1 + nm.size + 1 = N at *
  have HPRE := Lib.hid hpre
  have HLEN := Lib.hid hlen
  have hN' : N = hd.length := hlen
  have hlb := lpB_le ls (fun i hi => (HSH.out i hi).2)
  have HLB := Lib.hid hlb
  clear hpre hlen hN' hlb HR1 HR2 HB1 HB2 hcc hcs
  go_loopw [3, 4, 5, 38] (fun s _ _ i wr => ∃ k b cap : Nat, k ≤ ls.length ∧ i = .int .i64 k ∧ s = .slice (some ⟨b, 0, none⟩) (N + (lpB ls k).length) cap ∧ Hid (ORow wr 5 1 b cap (N + (lpB ls k).length) (Lib.byteCells (hd ++ lpB ls k))) ∧ w.heap.size ≤ b ∧ Hid (Below w.heap.size w wr)) (fun _ _ _ i _ => ls.length - (intOf i).toNat)
  case atStart => exact ⟨0, b3, cap3, by omega, rfl, rfl, by rw [lpB, List.append_nil]; exact HR3.out, hbe3, HB3.out⟩
  case round =>
    obtain ⟨k, b, cap, hk, rfl, rfl, HR, hbb, HW⟩ := hrel
    have hz := HW.out.size
    by_cases hlt : k < ls.length
    · obtain ⟨bo, rfl, _, hbo, hc⟩ := HS.out (by omega)
      obtain ⟨ai, ci, c1, s1⟩ := hc k hlt
      obtain ⟨h3, h64⟩ := HSH.out k hlt
      have hsk := HSM.out k hlt
      have hlbk := HLB.out k (by omega)
      have hsucc : lpB ls (k + 1) = lpB ls k ++ (UInt8.ofNat (lpAt ls k).length :: ptB (lpAt ls k) (lpAt ls k).length) := rfl
      generalize lpAt ls k = l at *
      generalize lpB ls k = lb at *
      obtain ⟨bl, rfl, _, hbl, hcl⟩ := s1 (by omega)
      have HC := Lib.hid c1
      have HCL := Lib.hid hcl
      have HSK := Lib.hid hsk
      have HSU := Lib.hid hsucc
      clear hc c1 s1 hcl hsk hsucc
      have e0 := keep_cell HW.out HP0.out
      have e1 := keep_cell HW.out HP1.out
      have e2 := keep_cell HW.out HC.out
      have j0 : (0 : Int) ≤ (k : Int) := by omega
      have j1 : (k : Int) < (ls.length : Int) := by omega
      have j2 : (l.length : Int) ≤ 64 := by omega
      have j3 : (0 : Int) ≤ (l.length : Int) := by omega
      go_wp2_with (at_builtin; refine wpList_appB rfl _ _ _ rfl 5 (.int .u8 0) 1 Try.underlying56 infoB rfl (by decide) b cap (N + lb.length) _ rfl (HR.out.below (Below.alloc (Below.refl _ _) (Nat.le_refl _) _) HR.out.lt) wr.heap.size 1 1 [.int .u8 (l.length : Int)] rfl rfl (fun j u h => news_new wr _ _ j u h) (by simp [Value.oneCell']) (by omega) (by omega) w.heap.size hbb (by simp; omega) ?_; intro b4 cap4 w4 hr4 hbe4 hg4; have HR4 := Lib.hid (row_app1 hr4 (by omega)); have hq : Below w.heap.size w w4 := (HW.out.trans (Below.alloc (Below.refl _ _) hz _)).trans (hg4.below hbb (by simp; omega)); have HB4 := Lib.hid hq; clear hr4 hg4 hq; have hz4 := HB4.out.size; have f0 := keep_cell HB4.out HP0.out; have f1 := keep_cell HB4.out HP1.out; have f2 := keep_cell HB4.out HC.out; clear e0 e1 e2)
      go_loopw [3, 5, 61] (fun s _ i wx => ∃ q b cap : Nat, q ≤ l.length ∧ i = .int .i64 q ∧ s = .slice (some ⟨b, 0, none⟩) (N + lb.length + 1 + 8 * q) cap ∧ Hid (ORow wx 5 1 b cap (N + lb.length + 1 + 8 * q) (Lib.byteCells (hd ++ lb ++ [UInt8.ofNat l.length] ++ ptB l q))) ∧ w.heap.size ≤ b ∧ Hid (Below w.heap.size w wx)) (fun _ _ i _ => l.length - (intOf i).toNat)
      case atStart => exact ⟨0, b4, cap4, by omega, rfl, rfl, by rw [ptB, List.append_nil]; exact HR4.out, hbe4, HB4⟩
      case round =>
        obtain ⟨q, b5, cap5, hq, rfl, rfl, HR5, hb5, HW5⟩ := hrel
        have hz5 := HW5.out.size
        clear f0 f1 f2
        have f1 := keep_cell HW5.out HP1.out
        have f2 := keep_cell HW5.out HC.out
        by_cases hql : q < l.length
        · have hzc := HCL.out q hql
          unfold cV at hzc
          have f3 := keep_cell HW5.out hzc
          have hst : ptB l (q + 1) = ptB l q ++ (word (cAt l q).1 ++ word (cAt l q).2) := rfl
          obtain ⟨hz1, hz2⟩ := HSK.out q hql
          generalize cAt l q = z at *
          generalize ptB l q = pb at *
          have HST := Lib.hid hst
          have HZC := Lib.hid hzc
          clear hst hzc
          have i0 : (0 : Int) ≤ (q : Int) := by omega
          have i1 : (q : Int) < (l.length : Int) := by omega
          go_wp2_with (first
            | (go_at_call 34; refine (l07Word b6 cap6 _ _ z.2 hz2 (by omega) _ HR6.out w.heap.size hb6 (by have := HW6.out.size; omega)).mono ?_; rintro e w7 ⟨b7, cap7, rfl, hr7, hb7, hbl7⟩; have HR7 := Lib.hid hr7; have HW7 := Lib.hid (HW6.out.trans hbl7); clear hr7 hbl7)
            | (go_at_call 34; refine (l07Word b5 cap5 _ _ z.1 hz1 (by omega) _ HR5.out w.heap.size hb5 hz5).mono ?_; rintro e w6 ⟨b6, cap6, rfl, hr6, hb6, hbl6⟩; have HR6 := Lib.hid hr6; have HW6 := Lib.hid (HW5.out.trans hbl6); have g1 := keep_cell HW6.out HP1.out; have g2 := keep_cell HW6.out HC.out; have g3 : w6.cell? ⟨bl, q, none⟩ = some (.complex .f32 z.1 z.2) := keep_cell HW6.out HZC.out; clear hr6 hbl6))
          have hn8 : N + lb.length + 1 + 8 * q + 4 + 4 = N + lb.length + 1 + 8 * (q + 1) := by omega
          have HR8 := HR7.out
          rw [hn8] at HR8 ⊢
          refine ⟨⟨q + 1, b7, cap7, by omega, by go_num, rfl, ?_, hb7, HW7⟩, by simp [intOf]; omega⟩
          rw [HST.out]
          simp only [List.append_assoc] at HR8 ⊢
          exact HR8
        · have hqq : q = l.length := by omega
          subst hqq
          have HR8 := HR5.out
          have hn8 : N + lb.length + 1 + 8 * l.length = N + (lpB ls (k + 1)).length := by
            rw [HSU.out]; simp [ptB_len]; omega
          go_wp2_with fail
          rw [hn8] at HR8 ⊢
          refine ⟨⟨k + 1, b5, cap5, by omega, by go_num, rfl, ?_, hb5, HW5⟩, by simp [intOf]; omega⟩
          rw [HSU.out]
          rw [HSU.out] at HR8
          simp only [List.append_assoc, List.singleton_append] at HR8 ⊢
          exact HR8
    · have hkk : k = ls.length := by omega
      subst hkk
      have hlb := HLB.out ls.length (Nat.le_refl _)
      have hln := HLEN.out
      have hcv := conv_row HR.out (by rw [hln]; simp)
      rw [← HPRE.out] at hcv
      have HR := HR.out
      rw [← HPRE.out] at HR
      have hpl : (preB nm ls).length = N + (lpB ls ls.length).length := by rw [HPRE.out, hln]; simp
      have hsto : stoB nm ls = preB nm ls ++ [UInt8.ofNat (chkB (preB nm ls)).toNat, UInt8.ofNat ((chkB (preB nm ls)).toNat / 256)] := rfl
      have hcr : 0 ≤ chkB (preB nm ls) ∧ chkB (preB nm ls) < 65003 := chN_range _ _ (by decide) (by decide) _
      have hck : chN 0 ⟨(preB nm ls).toArray⟩ (⟨(preB nm ls).toArray⟩ : ByteArray).size = chkB (preB nm ls) := rfl
      have hsz : (⟨(preB nm ls).toArray⟩ : ByteArray).size = (preB nm ls).length := rfl
      have HSTO := Lib.hid hsto
      clear hsto
      generalize hPP : preB nm ls = pre at *
      generalize hCC : chkB pre = C at *
      obtain ⟨C, rfl⟩ := Int.eq_ofNat_of_zero_le hcr.1
      have HCK := Lib.hid hck
      have HRR := Lib.hid HR
      clear hPP hCC hck HPRE HLEN HR hln
      have hC : C < 65003 := by omega
      have hcell : [Value.int .u8 ((C : Int) % 256), Value.int .u8 ((C : Int) / 256)] = Lib.byteCells [UInt8.ofNat C, UInt8.ofNat (C / 256)] := by
        simp only [Lib.byteCells, List.map_cons, List.map_nil, u8c]
        congr 2
        · congr 1; omega
      have HCE := Lib.hid hcell
      clear hcell
      go_wp2_with (first
        | (go_at_call 35; refine (l01Check 0 (by decide) (by decide) _ (by rw [hsz]; omega) _).mono ?_; rintro e w8 ⟨rfl, hw8⟩; rw [hw8, HCK.out])
        | (at_builtin; refine wpList_appB rfl _ _ _ rfl 5 (.int .u8 0) 1 Try.underlying56 infoB rfl (by decide) b cap (N + (lpB ls ls.length).length) _ rfl (HRR.out.below (Below.alloc (Below.refl _ _) (Nat.le_refl _) _) HRR.out.lt) wr.heap.size 2 2 [.int .u8 ((C : Int) % 256), .int .u8 ((C : Int) / 256)] rfl rfl (fun j u h => news_new wr _ _ j u h) (by simp [Value.oneCell']) (by omega) (by omega) w.heap.size hbb (by simp; omega) ?_; intro b4 cap4 w4 hr4 hbe4 hg4; have hr5 := row_app (by rw [HCE.out] at hr4; exact hr4); have hcv2 := conv_row hr5 (by rw [← hpl]; simp); have HB4 := Lib.hid ((HW.out.trans (Below.alloc (Below.refl _ _) hz _)).trans (hg4.below hbb (by simp; omega))); clear hr4 hg4 hr5))
      go_ret
      refine ⟨?_, HB4.out⟩
      rw [HSTO.out]
      rfl
end Go.Proofs.Ytenamfkggeeacaa

/- impl.IsMask, MaskOnce walked. (Written by mkrgo.py.) -/
import Derived.Test.YtkpjhoiaegioeaaRgN
namespace Go.Fl
open Ieee Go.RowKit
def mAt (ms : List Nat) (k : Nat) : Nat := ms.getD k 0
/-- a mask in memory -/
def MkAt (w : World) (lo hi : Nat) (a : Option Addr) (ms : List Nat) : Prop := ∃ b, a = some ⟨b, 0, none⟩ ∧ lo ≤ b ∧ b < hi ∧ ∀ i, i < ms.length → w.cell? ⟨b, i, none⟩ = some (.float .f32 (mAt ms i))
theorem MkAt.far {w w' : World} {lo hi : Nat} {a : Option Addr} {ms : List Nat} (h : MkAt w lo hi a ms) (hf : Far lo hi w w') : MkAt w' lo hi a ms := by
  obtain ⟨b, h1, h2, h3, h4⟩ := h
  exact ⟨b, h1, h2, h3, fun i hi => (hf.cell h2 h3).trans (h4 i hi)⟩
def sumF (ms : List Nat) : Nat → Nat
  | 0 => 0
  | k + 1 => fop .add .f32 (sumF ms k) (mAt ms k)
structure GoodMask (ms : List Nat) (mz : Nat → Int) : Prop where
  len : ms.length = 1 ∨ ms.length = 3
  q : ∀ k, k < ms.length → Q .f32 (mAt ms k) (mz k) 3 ∧ (mz k).natAbs ≤ 8
  sum : ∀ k, k ≤ ms.length → isN .f32 (sumF ms k) = true
  one : isN .f32 (fop .sub .f32 (sumF ms ms.length) 1065353216) = true ∧ V .f32 (fop .sub .f32 (sumF ms ms.length) 1065353216) = 0
def moI (n L i k : Nat) : Nat := if L = 1 then i else if k = 0 then pv n i else if k = 1 then i else nx n i
theorem moI_lt {n L i k : Nat} (h : i < n) : moI n L i k < n := by
  unfold moI
  split
  · exact h
  · split
    · exact pv_lt h
    · split
      · exact h
      · exact nx_lt h
theorem tm_mo3 {n i k : Nat} (hi : i < n) (hn : 2 ≤ n) (hk : k < 3) : (((i : Int) + ((k : Int) - 1)).tmod n + n).tmod n = (moI n 3 i k : Nat) := by
  unfold moI
  rw [if_neg (by decide)]
  have : k = 0 ∨ k = 1 ∨ k = 2 := by omega
  rcases this with rfl | rfl | rfl
  · rw [if_pos rfl]; exact tm_pv hi hn
  · rw [if_neg (by decide), if_pos rfl]; exact tm_0 hi
  · rw [if_neg (by decide), if_neg (by decide)]; exact tm_nx hi
theorem tm_mo1 {n i k : Nat} (hi : i < n) (hk : k < 1) : (((i : Int) + (k : Int)).tmod n + n).tmod n = (moI n 1 i k : Nat) := by
  have : k = 0 := by omega
  subst this
  unfold moI
  rw [if_pos rfl]
  exact tm_0 hi
def maskP (xs : List Cx) (ms : List Nat) (i : Nat) : Nat → Cx
  | 0 => (0, 0)
  | k + 1 => plusF (maskP xs ms i k) (scaleF (cAt xs (moI xs.length ms.length i k)) (mAt ms k))
def maskZ (ks : List Zp) (L : Nat) (mz : Nat → Int) (i : Nat) : Nat → Zp
  | 0 => (0, 0)
  | k + 1 => addZ (maskZ ks L mz i k) (mulZ (zAt ks (moI ks.length L i k)) (mz k))
theorem zeroQ (e : Nat) (he : e ≤ 149) : Q .f32 0 0 e := ⟨by decide +kernel, by rw [zero_N.2, Int.zero_mul], he⟩
theorem mask_px {xs : List Cx} {ks : List Zp} {e B i : Nat} {ms : List Nat} {mz : Nat → Int} (h : PL xs ks e B) (hB : B ≤ 4096) (he : e ≤ 90) (hm : GoodMask ms mz) (hi : i < xs.length) : ∀ k, k ≤ ms.length →
    PX (maskP xs ms i k) (maskZ ks ms.length mz i k) (e + 3) ∧ low (maskZ ks ms.length mz i k) (8 * B * k)
  | 0, _ => ⟨⟨zeroQ _ (by omega), zeroQ _ (by omega)⟩, ⟨Nat.zero_le _, Nat.zero_le _⟩⟩
  | k + 1, hk => by
    obtain ⟨p1, l1⟩ := mask_px h hB he hm hi k (by omega)
    have hl := h.len
    have hm3 : ms.length ≤ 3 := by rcases hm.len with h | h <;> omega
    obtain ⟨q1, q2⟩ := hm.q k hk
    unfold maskP maskZ
    rw [hl]
    obtain ⟨pa, la⟩ := h.pt _ (moI_lt (L := ms.length) (k := k) hi)
    have hBk : 8 * B * k ≤ 8 * 4096 * 3 := Nat.mul_le_mul (by omega) (by omega)
    have l2 := la.mul (j := mz k) (c := 8) (C := 8 * B) q2 (by omega)
    have e1 : 8 * B * (k + 1) = 8 * B * k + 8 * B := by rw [Nat.mul_add, Nat.mul_one]
    refine ⟨p1.plus (pa.scale q1 (la.mono (by omega)) (by omega) (by omega)) (l1.mono (by omega)) (l2.mono (by omega)), ?_, ?_⟩
    · have a := l1.1; have b := l2.1; rw [e1]; show (_ + _ : Int).natAbs ≤ _; omega
    · have a := l1.2; have b := l2.2; rw [e1]; show (_ + _ : Int).natAbs ≤ _; omega
def mkF (xs : List Cx) (ms : List Nat) (i : Nat) : Cx := maskP xs ms i ms.length
def mkZ (ks : List Zp) (L : Nat) (mz : Nat → Int) (i : Nat) : Zp := maskZ ks L mz i L
theorem mk_PL {xs : List Cx} {ks : List Zp} {e B : Nat} {me mo : List Nat} {ez oz : Nat → Int} (h : PL xs ks e B) (hB : B ≤ 4096) (he : e ≤ 90) (hme : GoodMask me ez) (hmo : GoodMask mo oz) (hn : 0 < xs.length) :
    PL (pairL (mkF xs me) (mkF xs mo) xs.length) (pairL (mkZ ks me.length ez) (mkZ ks mo.length oz) xs.length) (e + 3) (24 * B) := by
  have key : ∀ {ms : List Nat} {mz : Nat → Int}, GoodMask ms mz → ∀ i, i < xs.length → PX (mkF xs ms i) (mkZ ks ms.length mz i) (e + 3) ∧ low (mkZ ks ms.length mz i) (24 * B) := fun {ms mz} hm i hi => by
    obtain ⟨p1, l1⟩ := mask_px h hB he hm hi ms.length (Nat.le_refl _)
    have hm3 : ms.length ≤ 3 := by rcases hm.len with h | h <;> omega
    refine ⟨p1, l1.mono ?_⟩
    have := Nat.mul_le_mul_left (8 * B) hm3
    omega
  have := ringL_PL (closed := true) hn (key hme) (fun i hi _ => key hmo i hi)
  exact this
end Go.Fl
namespace Go.Proofs.Ytkpjhoiaegioeaa
open Go.RowKit Go.Fl

def Goes (g : Nat) : Prop := ∀ args w, Sem.run Try.prog (callFunc g args) w = .ok (.enter g args) w
set_option maxHeartbeats 1000000 in
theorem indexFunc (p : Nat → Bool) (g : Nat) (hg : Goes g) (hf : ∀ x w, Calls Try.prog g #[.float .f32 x] w fun e w' => e = .returned (.bool (p x)) ∧ ∃ n, w' = w.drewN n)
    (xs : List Nat) (v : Value) (w : World) (hs : SlF w v xs) :
    Calls Try.prog 82 #[v, .func (.func g) #[] #[]] w fun e w' => e = .returned (.int .i64 (idx p xs)) ∧ ∃ n, w' = w.drewN n := by
  have HF := Lib.hid hf
  clear hf
  have hgo : ∀ args w, Sem.run Try.prog (callFunc g args) w = .ok (.enter g args) w := hg
  rcases hs with ⟨rfl, rfl⟩ | ⟨b, off, cap, rfl, hm, hc⟩
  · go_enter Try.func82, Try.ntmps82
    go_wp2_with fail
    refine wp_loop_rounds 1 ?_
    rw [rounds_succ]
    go_wp2_with fail
    go_ret
    exact ⟨rfl, 0, rfl⟩
  go_enter Try.func82, Try.ntmps82
  go_wp2_with fail
  go_loopw [8] (fun i wr => ∃ k q : Nat, k ≤ xs.length ∧ i = .int .i64 k ∧ wr = w.drewN q ∧ (xs.take k).any p = false) (fun i _ => xs.length - (intOf i).toNat)
  case atStart => exact ⟨0, 0, by omega, rfl, rfl, rfl⟩
  case round =>
    obtain ⟨k, q, hk, rfl, rfl, hn⟩ := hrel
    by_cases hlt : k < xs.length
    · have hcell := hc k hlt
      have HN := Lib.hid hn
      clear hn hc
      go_wp2_with fail
      refine (HF.out _ _).mono ?_
      rintro e w' ⟨rfl, n, rfl⟩
      go_wp2_with fail
      · go_ret
        exact ⟨ret_int (idx_some hlt HN.out ‹_›).symm, _, rfl⟩
      · go_roundw
        case rel => exact ⟨k + 1, _, by omega, by go_num, rfl, any_snoc hlt HN.out ‹_›⟩
        case measure => simp [intOf]; omega
    · have HN := Lib.hid hn
      clear hn hc
      go_wp2_with fail
      go_ret
      have e : xs.take k = xs := List.take_of_length_le (by omega)
      exact ⟨ret_int (idx_none (by rw [← e]; exact HN.out)).symm, _, rfl⟩
theorem containsFunc (p : Nat → Bool) (g : Nat) (hg : Goes g) (hf : ∀ x w, Calls Try.prog g #[.float .f32 x] w fun e w' => e = .returned (.bool (p x)) ∧ ∃ n, w' = w.drewN n)
    (xs : List Nat) (v : Value) (w : World) (hs : SlF w v xs) :
    Calls Try.prog 72 #[v, .func (.func g) #[] #[]] w fun e w' => e = .returned (.bool (xs.any p)) ∧ ∃ n, w' = w.drewN n := by
  have HF := Lib.hid hf
  have HS := Lib.hid hs
  clear hf hs
  go_enter Try.func72, Try.ntmps72
  go_wp2_with fail
  refine (indexFunc p g hg HF.out xs v _ HS.out).mono ?_
  rintro e w' ⟨rfl, n, rfl⟩
  go_wp2_with fail
  go_ret
  exact ⟨ret_bool (idx_ge p xs), _, rfl⟩
theorem areFinite1 (x : Nat) (w : World) : Calls Try.prog 73 #[.float .f32 x] w fun e w' => e = .returned (.bool (!fin (can .f32 x))) ∧ ∃ n, w' = w.drewN n := by
  go_enter Try.func73, Try.ntmps73
  go_wp2_with (go_at_call 45; refine (implIsFinite _ _).mono ?_; rintro e w' ⟨rfl, n, rfl⟩)
  all_goals
    go_ret
    exact ⟨rfl, _, rfl⟩
theorem any_not {α : Type} (p : α → Bool) (xs : List α) : (!xs.any fun x => !p x) = xs.all p := by
  induction xs with
  | nil => rfl
  | cons x xs ih => simp only [List.any_cons, List.all_cons, Bool.not_or, Bool.not_not, ih]
theorem areFinite (xs : List Nat) (v : Value) (w : World) (hs : SlF w v xs) :
    Calls Try.prog 58 #[v] w fun e w' => e = .returned (.bool (xs.all fun x => fin (can .f32 x))) ∧ ∃ n, w' = w.drewN n := by
  have HS := Lib.hid hs
  clear hs
  go_enter Try.func58, Try.ntmps58
  go_wp2_with fail
  refine (containsFunc _ _ (fun _ _ => rfl) (fun x w => areFinite1 x w) xs v _ HS.out).mono ?_
  rintro e w' ⟨rfl, n, rfl⟩
  go_wp2_with fail
  go_ret
  exact ⟨ret_bool (any_not _ _), _, rfl⟩

set_option maxHeartbeats 1000000 in
theorem addUpR {ms : List Nat} {mz : Nat → Int} (lo hi : Nat) (a : Option Addr) (L c : Nat) (hg : GoodMask ms mz) (hL : ms.length = L) (w : World) (hm : MkAt w lo hi a ms) :
    Calls Try.prog 57 #[.slice a L c] w fun x w' => x = .returned (.float .f32 (sumF ms L)) ∧ w' = w := by
  obtain ⟨b, rfl, _, _, hc⟩ := hm
  have HC := Lib.hid hc
  have HG := Lib.hid hg
  have HL := Lib.hid hL
  have l3 : (L : Int) ≤ 3 := by rcases hg.len with h | h <;> omega
  have dz : ∀ w : World, w.drewN 0 = w := World.drewN_zero
  clear hc hg hL
  go_enter Try.func57, Try.ntmps57
  go_wp2_with fail
  go_loopw [3, 8] (fun s i wr => ∃ k : Nat, k ≤ L ∧ i = .int .i64 k ∧ s = .float .f32 (sumF ms k) ∧ Hid (wr = w)) (fun _ i _ => L - (intOf i).toNat)
  case atStart => exact ⟨0, by omega, rfl, rfl, Lib.hid rfl⟩
  case round =>
    obtain ⟨k, hk, rfl, rfl, HW⟩ := hrel
    have := HW.out
    subst this
    by_cases hlt : k < L
    · have hcell := HC.out k (by rw [HL.out]; exact hlt)
      have k0 : (0 : Int) ≤ (k : Int) := by omega
      have k1 : (k : Int) < (L : Int) := by omega
      obtain ⟨m1, d1⟩ := run_fopN (op := .add) (x := sumF ms k) (y := mAt ms k) (HG.out.sum (k + 1) (by rw [HL.out]; exact hlt))
      go_wp2_with fail
      go_roundw
      case rel => exact ⟨k + 1, by omega, by go_num, rfl, Lib.hid trivial⟩
      case measure => simp [intOf]; omega
    · have hkn : k = L := by omega
      subst hkn
      go_wp2_with fail
      go_ret
      exact ⟨rfl, rfl⟩
theorem milli_N : isN .f32 981668463 = true ∧ 0 < V .f32 981668463 ∧ isN .f32 3129152111 = true ∧ V .f32 3129152111 < 0 := ⟨by decide +kernel, by decide +kernel, by decide +kernel, by decide +kernel⟩
theorem isMaskR {ms : List Nat} {mz : Nat → Int} (lo hi : Nat) (a : Option Addr) (L c : Nat) (hg : GoodMask ms mz) (hL : ms.length = L) (w : World) (hm : MkAt w lo hi a ms) :
    Calls Try.prog 29 #[.slice a L c] w fun x w' => x = .returned (.bool true) ∧ ∃ q, w' = w.drewN q := by
  have HA := Lib.hid (addUpR lo hi a L c hg hL w hm)
  have hsl : SlF w (.slice a L c) ms := by
    obtain ⟨b, rfl, _, _, hc⟩ := hm
    rw [← hL]
    exact .inr ⟨b, 0, c, rfl, by rcases hg.len with h | h <;> rw [h] <;> decide, fun i hi => by rw [Nat.zero_add]; exact hc i hi⟩
  have HF := Lib.hid (areFinite ms _ w hsl)
  have hall : ms.all (fun x => fin (can .f32 x)) = true := List.all_eq_true.2 fun x hx => by
    obtain ⟨i, hi, rfl⟩ := List.mem_iff_getElem.1 hx
    have e : mAt ms i = ms[i] := by simp [mAt, hi]
    rw [← e]
    exact finX (hg.q i hi).1
  have HALL := Lib.hid hall
  have hone := hg.one
  rw [hL] at hone
  obtain ⟨d, hd⟩ : ∃ d, d = fop .sub .f32 (sumF ms L) 1065353216 := ⟨_, rfl⟩
  obtain ⟨m1, d1⟩ := run_fopN hone.1
  rw [← hd] at hone m1
  have dz : ∀ w : World, w.drewN 0 = w := World.drewN_zero
  have o1 : (FloatKind.f32.format.order d 981668463 == some .lt || FloatKind.f32.format.order d 981668463 == some .eq) = true := by
    rw [ord_V hone.1 milli_N.1, hone.2]
    have h := milli_N.2.1
    have : compare (0 : Int) (V .f32 981668463) = .lt := by show compareOfLessAndEq _ _ = .lt; unfold compareOfLessAndEq; rw [if_pos h]
    rw [this]; rfl
  have o2 : (FloatKind.f32.format.order d 3129152111 == some .gt || FloatKind.f32.format.order d 3129152111 == some .eq) = true := by
    rw [ord_V hone.1 milli_N.2.2.1, hone.2]
    have h := milli_N.2.2.2
    have : compare (0 : Int) (V .f32 3129152111) = .gt := by show compareOfLessAndEq _ _ = .gt; unfold compareOfLessAndEq; rw [if_neg (by omega), if_neg (by omega)]
    rw [this]; rfl
  have hlen := hg.len
  rw [hL] at hlen
  clear hg hL hm hsl hall hone hd
  rcases hlen with rfl | rfl
  · go_enter Try.func29, Try.ntmps29
    go_wp2_with fail
    refine HA.out.mono ?_
    rintro e1 w1 ⟨rfl, rfl⟩
    go_wp2_with fail
    refine HF.out.mono ?_
    rintro e1 w1 ⟨rfl, q, rfl⟩
    rw [HALL.out]
    go_wp2_with fail
    go_ret
    exact ⟨rfl, q, rfl⟩
  · go_enter Try.func29, Try.ntmps29
    go_wp2_with fail
    refine HA.out.mono ?_
    rintro e1 w1 ⟨rfl, rfl⟩
    go_wp2_with fail
    refine HF.out.mono ?_
    rintro e1 w1 ⟨rfl, q, rfl⟩
    rw [HALL.out]
    go_wp2_with fail
    go_ret
    exact ⟨rfl, q, rfl⟩

set_option maxHeartbeats 8000000 in
set_option maxRecDepth 100000 in
theorem maskOnce {xs : List Cx} {ks : List Zp} {e B : Nat} {me mo : List Nat} {ez oz : Nat → Int} (lo hi : Nat) (ao : Option Addr) (c n : Nat) (lo2 hi2 : Nat) (aE aO : Option Addr) (cE cO LE LO : Nat) (h : PL xs ks e B) (hB : B ≤ 4096) (hn : xs.length = n) (hn2 : 2 ≤ n) (hn64 : n ≤ 64) (he : e ≤ 90) (hgE : GoodMask me ez) (hgO : GoodMask mo oz) (hLE : me.length = LE) (hLO : mo.length = LO) (w : World) (hsl : SlC w lo hi ao xs) (htop : hi ≤ w.heap.size) (hmE : MkAt w lo2 hi2 aE me) (hmO : MkAt w lo2 hi2 aO mo) (htop2 : hi2 ≤ w.heap.size) :
    Calls Try.prog 27 #[.slice ao n c, .slice aE LE cE, .slice aO LO cO] w fun x w' => (∃ b cap m, x = .returned (.tuple #[.slice (some ⟨b, 0, none⟩) m cap, .bool true]) ∧ m = 2 * n ∧ w.heap.size ≤ b ∧ OwnC1 w' b (pairL (mkF xs me) (mkF xs mo) n)) ∧ Below w.heap.size w w' := by
  have HPL := Lib.hid h
  have HN := Lib.hid hn
  have HS := Lib.hid hsl
  have HGE := Lib.hid hgE
  have HGO := Lib.hid hgO
  have HME := Lib.hid hmE
  have HMO := Lib.hid hmO
  have HLE := Lib.hid hLE
  have HLO := Lib.hid hLO
  have HIR := Lib.hid (isRing lo hi ao c n h hn hn2 (by omega) w hsl)
  have hpe := mk_PL h hB he hgE hgO (by omega)
  rw [hn] at hpe
  have HPE := Lib.hid hpe
  have hE13 : LE = 1 ∨ LE = 3 := by rw [← hLE]; exact hgE.len
  have hO13 : LO = 1 ∨ LO = 3 := by rw [← hLO]; exact hgO.len
  have H13 := Lib.hid (And.intro hE13 hO13)
  have n1 : (n : Int) ≤ 64 := by omega
  have n2 : (2 : Int) ≤ (n : Int) := by omega
  have HGEN := Lib.hid (fun v hv => isMaskR lo2 hi2 aE LE cE hgE hLE v hv)
  have HGON := Lib.hid (fun v hv => isMaskR lo2 hi2 aO LO cO hgO hLO v hv)
  clear h hn hsl hgE hgO hmE hmO hLE hLO hpe hE13 hO13
  go_enter Try.func27, Try.ntmps27
  go_wp2_with fail
  refine HIR.out.mono ?_
  rintro e1 w0 ⟨rfl, q0, rfl⟩
  clear HIR
  go_wp2_with fail
  refine (HGEN.out _ (HME.out.far ((Far.refl _ _ _).drewN q0))).mono ?_
  rintro e1 w0 ⟨rfl, q1, rfl⟩
  go_wp2_with fail
  refine (HGON.out _ (HMO.out.far ((Far.refl _ _ _).drewN _))).mono ?_
  rintro e1 w0 ⟨rfl, q2, rfl⟩
  obtain ⟨v, hv⟩ : ∃ v : World, v = ((w.drewN q0).drewN q1).drewN q2 := ⟨_, rfl⟩
  have hv' : v = w.drewN (q0 + q1 + q2) := by rw [hv]; simp
  have hvs : v.heap.size = w.heap.size := by rw [hv]; rfl
  have HV := Lib.hid (show Below w.heap.size w v by rw [hv']; exact below_dr (Below.refl _ _) _)
  have HVS := Lib.hid hvs
  try simp only [World.drewN_drewN]
  try rw [← hv']
  try rw [← hv]
  clear hv hv' hvs HGEN HGON
  go_wp2_with fail
  go_loopw [8, 33] (fun o i wr => ∃ (k b cap m : Nat), k ≤ n ∧ Hid (m = 2 * k) ∧ m ≤ 140 ∧ i = .int .i64 k ∧ o = .slice (some ⟨b, 0, none⟩) m cap ∧ w.heap.size ≤ b ∧ Hid (ORow wr 26 1 b cap m ((pairL (mkF xs me) (mkF xs mo) k).map cV)) ∧ Hid (Below w.heap.size w wr)) (fun _ i _ => n - (intOf i).toNat)
  case atStart => exact ⟨0, v.heap.size, 0, 0, by omega, Lib.hid rfl, by omega, rfl, rfl, by rw [HVS.out]; exact Nat.le_refl _, Lib.hid (ORow.new _ _ _), Lib.hid (HV.out.alloc (by rw [HVS.out]; exact Nat.le_refl _) _)⟩
  case round =>
    obtain ⟨i0, b, cap, m, hk, HM, hm140, rfl, rfl, hb, HR, HB⟩ := hrel
    by_cases hlt : i0 < n
    · have k0 : (0 : Int) ≤ (i0 : Int) := by omega
      have k1 : (i0 : Int) < (n : Int) := by omega
      go_wp2_with fail
      go_loopw [8, 39] (fun o j wr => ∃ (g b' cap' m' : Nat) (ys : List Cx), g ≤ 2 ∧ j = .int .i64 g ∧ Hid (ys = pairL (mkF xs me) (mkF xs mo) i0 ++ (if g = 0 then [] else if g = 1 then [mkF xs me i0] else [mkF xs me i0, mkF xs mo i0])) ∧ Hid (m' = ys.length) ∧ m' ≤ m + g ∧ o = .slice (some ⟨b', 0, none⟩) m' cap' ∧ w.heap.size ≤ b' ∧ Hid (ORow wr 26 1 b' cap' m' (ys.map cV)) ∧ Hid (Below w.heap.size w wr)) (fun _ j _ => 2 - (intOf j).toNat)
      case atStart => exact ⟨0, b, cap, m, pairL (mkF xs me) (mkF xs mo) i0, by omega, rfl, Lib.hid (by simp), Lib.hid (by rw [pairL_len]; exact HM.out), by omega, rfl, hb, HR, HB⟩
      case round =>
        clear HR HB hb
        obtain ⟨g, b9, cap9, m9, ys, hg2, rfl, HY9, HM9, hm9, rfl, hb9, HR9, HB9⟩ := hrel
        have hzw := HB9.out.size
        rename World => w9
        have hg3 : g = 0 ∨ g = 1 ∨ g = 2 := by omega
        rcases hg3 with rfl | rfl | rfl
        · rcases H13.out.1 with hL | hL
          · subst hL
            have hLE := HLE.out
            have hLI : me.length = 1 := hLE
            obtain ⟨bM, hbM, hm1, hm2, hmc⟩ := HME.out
            rw [hbM]
            have hix : ∀ w, (Instr.index 73 (.agg #[.slice (some ⟨bM, 0, none⟩) 1 cE, .slice aO LO cO]) (.int .i64 0)).run Try.prog w = .ok (.slice (some ⟨bM, 0, none⟩) 1 cE) w := fun w => rfl
            have HMC := Lib.hid hmc
            have HLI := Lib.hid hLI
            clear hmc hLI
            go_wp2_with fail
            go_loopw [12, 44] (fun s i wr => ∃ k : Nat, k ≤ 1 ∧ i = .int .i64 k ∧ s = cV (maskP xs me i0 k) ∧ Hid (wr = w9)) (fun _ i _ => 1 - (intOf i).toNat)
            case atStart => exact ⟨0, by omega, rfl, rfl, Lib.hid rfl⟩
            case round =>
              obtain ⟨k, hk, rfl, rfl, HW⟩ := hrel
              have := HW.out
              subst this
              by_cases hkL : k < 1
              · have hcell := (HB9.out.cell (p := ⟨bM, k, none⟩) (by show bM < w.heap.size; omega)).trans (HMC.out k (by rw [HLI.out]; exact hkL))
                have kk0 : (0 : Int) ≤ (k : Int) := by omega
                have kk1 : (k : Int) < 1 := by omega
                obtain ⟨p1, l1⟩ := mask_px HPL.out hB he HGE.out (show i0 < xs.length by rw [HN.out]; exact hlt) k (by rw [HLI.out]; omega)
                obtain ⟨pa, la⟩ := HPL.out.pt (moI n 1 i0 k) (by rw [HN.out]; exact moI_lt hlt)
                obtain ⟨q1, q2⟩ := HGE.out.q k (by rw [HLI.out]; exact hkL)
                have EM := Lib.hid (show maskP xs me i0 (k + 1) = plusF (maskP xs me i0 k) (scaleF (cAt xs (moI n 1 i0 k)) (mAt me k)) by rw [maskP, HN.out, HLI.out])
                have hBk : 8 * B * k ≤ 8 * 4096 * 3 := Nat.mul_le_mul (by omega) (by omega)
                have P1 := Lib.hid p1
                have L1 := Lib.hid (show low _ 4194304 from l1.mono (by omega))
                have PA := Lib.hid pa
                have LA := Lib.hid (show low _ 65536 from la.mono (by omega))
                have Q1 := Lib.hid q1
                have HJ := Lib.hid (show (ez k).natAbs ≤ 64 by omega)
                have P2 := Lib.hid (pa.scale q1 (la.mono (by omega)) (show (ez k).natAbs ≤ 64 by omega) (by omega))
                have L2 := Lib.hid (la.mul (j := ez k) (c := 8) (C := 4194304) q2 (by omega))
                have HSW := Lib.hid (HS.out.far (Far.below HB9.out htop))
                clear p1 l1 pa la q1 q2 hBk
                go_wp2_with fail
                refine (nbrClosed lo hi _ c xs n i0 (moI n 1 i0 k) (k : Int) HN.out (by omega) hlt (moI_lt hlt) (by omega) (by omega) (tm_mo1 hlt hkL) _ HSW.out).mono ?_
                rintro e1 w1 ⟨rfl, rfl⟩
                go_wp2_with fail
                refine (scaledR PA.out Q1.out LA.out HJ.out (by omega) _).mono ?_
                rintro e1 w2 ⟨rfl, rfl⟩
                go_wp2_with fail
                refine (plusR P1.out P2.out L1.out L2.out _).mono ?_
                rintro e1 w3 ⟨rfl, rfl⟩
                go_wp2_with fail
                exact ⟨⟨k + 1, by omega, by go_num, by rw [EM.out], Lib.hid (by first | exact trivial | rfl)⟩, by simp [intOf]; omega⟩
              · have hke : k = 1 := by omega
                subst hke
                have EF := Lib.hid (show mkF xs me i0 = maskP xs me i0 1 by unfold mkF; rw [HLI.out])
                unfold cV
                go_wp2_with (first | (at_builtin; refine wpList_appC rfl _ _ rfl _ _ [maskP xs me i0 1] rfl (by simp) (by simp) _ _ _ _ _ _ _ _ rfl rfl rfl (by first | rfl | simp) HR9.out (by omega) ?_; intro b5 cap5 w5 hr5 hbb5 hgr5; have HR5 := Lib.hid hr5; have HB5 := Lib.hid hbb5; have HG5 := Lib.hid hgr5; clear hr5 hbb5 hgr5))
                have hb5 := HB5.out
                have hbg := HG5.out.below (B := w.heap.size) hb9 HB9.out.size
                exact ⟨⟨1, b5, cap5, m9 + 1, ys ++ [mkF xs me i0], by omega, by go_num, Lib.hid (by rw [HY9.out]; simp), Lib.hid (by rw [List.length_append, ← HM9.out]; rfl), by omega, rfl, by omega, Lib.hid (by rw [EF.out]; exact HR5.out), Lib.hid (HB9.out.trans hbg)⟩, by simp [intOf]⟩
          · subst hL
            have hLE := HLE.out
            have hLI : me.length = 3 := hLE
            obtain ⟨bM, hbM, hm1, hm2, hmc⟩ := HME.out
            rw [hbM]
            have hix : ∀ w, (Instr.index 73 (.agg #[.slice (some ⟨bM, 0, none⟩) 3 cE, .slice aO LO cO]) (.int .i64 0)).run Try.prog w = .ok (.slice (some ⟨bM, 0, none⟩) 3 cE) w := fun w => rfl
            have HMC := Lib.hid hmc
            have HLI := Lib.hid hLI
            clear hmc hLI
            go_wp2_with fail
            go_loopw [12, 44] (fun s i wr => ∃ k : Nat, k ≤ 3 ∧ i = .int .i64 k ∧ s = cV (maskP xs me i0 k) ∧ Hid (wr = w9)) (fun _ i _ => 3 - (intOf i).toNat)
            case atStart => exact ⟨0, by omega, rfl, rfl, Lib.hid rfl⟩
            case round =>
              obtain ⟨k, hk, rfl, rfl, HW⟩ := hrel
              have := HW.out
              subst this
              by_cases hkL : k < 3
              · have hcell := (HB9.out.cell (p := ⟨bM, k, none⟩) (by show bM < w.heap.size; omega)).trans (HMC.out k (by rw [HLI.out]; exact hkL))
                have kk0 : (0 : Int) ≤ (k : Int) := by omega
                have kk1 : (k : Int) < 3 := by omega
                obtain ⟨p1, l1⟩ := mask_px HPL.out hB he HGE.out (show i0 < xs.length by rw [HN.out]; exact hlt) k (by rw [HLI.out]; omega)
                obtain ⟨pa, la⟩ := HPL.out.pt (moI n 3 i0 k) (by rw [HN.out]; exact moI_lt hlt)
                obtain ⟨q1, q2⟩ := HGE.out.q k (by rw [HLI.out]; exact hkL)
                have EM := Lib.hid (show maskP xs me i0 (k + 1) = plusF (maskP xs me i0 k) (scaleF (cAt xs (moI n 3 i0 k)) (mAt me k)) by rw [maskP, HN.out, HLI.out])
                have hBk : 8 * B * k ≤ 8 * 4096 * 3 := Nat.mul_le_mul (by omega) (by omega)
                have P1 := Lib.hid p1
                have L1 := Lib.hid (show low _ 4194304 from l1.mono (by omega))
                have PA := Lib.hid pa
                have LA := Lib.hid (show low _ 65536 from la.mono (by omega))
                have Q1 := Lib.hid q1
                have HJ := Lib.hid (show (ez k).natAbs ≤ 64 by omega)
                have P2 := Lib.hid (pa.scale q1 (la.mono (by omega)) (show (ez k).natAbs ≤ 64 by omega) (by omega))
                have L2 := Lib.hid (la.mul (j := ez k) (c := 8) (C := 4194304) q2 (by omega))
                have HSW := Lib.hid (HS.out.far (Far.below HB9.out htop))
                clear p1 l1 pa la q1 q2 hBk
                go_wp2_with fail
                refine (nbrClosed lo hi _ c xs n i0 (moI n 3 i0 k) ((k : Int) - 1) HN.out (by omega) hlt (moI_lt hlt) (by omega) (by omega) (tm_mo3 hlt hn2 hkL) _ HSW.out).mono ?_
                rintro e1 w1 ⟨rfl, rfl⟩
                go_wp2_with fail
                refine (scaledR PA.out Q1.out LA.out HJ.out (by omega) _).mono ?_
                rintro e1 w2 ⟨rfl, rfl⟩
                go_wp2_with fail
                refine (plusR P1.out P2.out L1.out L2.out _).mono ?_
                rintro e1 w3 ⟨rfl, rfl⟩
                go_wp2_with fail
                exact ⟨⟨k + 1, by omega, by go_num, by rw [EM.out], Lib.hid (by first | exact trivial | rfl)⟩, by simp [intOf]; omega⟩
              · have hke : k = 3 := by omega
                subst hke
                have EF := Lib.hid (show mkF xs me i0 = maskP xs me i0 3 by unfold mkF; rw [HLI.out])
                unfold cV
                go_wp2_with (first | (at_builtin; refine wpList_appC rfl _ _ rfl _ _ [maskP xs me i0 3] rfl (by simp) (by simp) _ _ _ _ _ _ _ _ rfl rfl rfl (by first | rfl | simp) HR9.out (by omega) ?_; intro b5 cap5 w5 hr5 hbb5 hgr5; have HR5 := Lib.hid hr5; have HB5 := Lib.hid hbb5; have HG5 := Lib.hid hgr5; clear hr5 hbb5 hgr5))
                have hb5 := HB5.out
                have hbg := HG5.out.below (B := w.heap.size) hb9 HB9.out.size
                exact ⟨⟨1, b5, cap5, m9 + 1, ys ++ [mkF xs me i0], by omega, by go_num, Lib.hid (by rw [HY9.out]; simp), Lib.hid (by rw [List.length_append, ← HM9.out]; rfl), by omega, rfl, by omega, Lib.hid (by rw [EF.out]; exact HR5.out), Lib.hid (HB9.out.trans hbg)⟩, by simp [intOf]⟩
        · rcases H13.out.2 with hL | hL
          · subst hL
            have hLO := HLO.out
            have hLI : mo.length = 1 := hLO
            obtain ⟨bM, hbM, hm1, hm2, hmc⟩ := HMO.out
            rw [hbM]
            have hix : ∀ w, (Instr.index 73 (.agg #[.slice aE LE cE, .slice (some ⟨bM, 0, none⟩) 1 cO]) (.int .i64 1)).run Try.prog w = .ok (.slice (some ⟨bM, 0, none⟩) 1 cO) w := fun w => rfl
            have HMC := Lib.hid hmc
            have HLI := Lib.hid hLI
            clear hmc hLI
            go_wp2_with fail
            go_loopw [12, 44] (fun s i wr => ∃ k : Nat, k ≤ 1 ∧ i = .int .i64 k ∧ s = cV (maskP xs mo i0 k) ∧ Hid (wr = w9)) (fun _ i _ => 1 - (intOf i).toNat)
            case atStart => exact ⟨0, by omega, rfl, rfl, Lib.hid rfl⟩
            case round =>
              obtain ⟨k, hk, rfl, rfl, HW⟩ := hrel
              have := HW.out
              subst this
              by_cases hkL : k < 1
              · have hcell := (HB9.out.cell (p := ⟨bM, k, none⟩) (by show bM < w.heap.size; omega)).trans (HMC.out k (by rw [HLI.out]; exact hkL))
                have kk0 : (0 : Int) ≤ (k : Int) := by omega
                have kk1 : (k : Int) < 1 := by omega
                obtain ⟨p1, l1⟩ := mask_px HPL.out hB he HGO.out (show i0 < xs.length by rw [HN.out]; exact hlt) k (by rw [HLI.out]; omega)
                obtain ⟨pa, la⟩ := HPL.out.pt (moI n 1 i0 k) (by rw [HN.out]; exact moI_lt hlt)
                obtain ⟨q1, q2⟩ := HGO.out.q k (by rw [HLI.out]; exact hkL)
                have EM := Lib.hid (show maskP xs mo i0 (k + 1) = plusF (maskP xs mo i0 k) (scaleF (cAt xs (moI n 1 i0 k)) (mAt mo k)) by rw [maskP, HN.out, HLI.out])
                have hBk : 8 * B * k ≤ 8 * 4096 * 3 := Nat.mul_le_mul (by omega) (by omega)
                have P1 := Lib.hid p1
                have L1 := Lib.hid (show low _ 4194304 from l1.mono (by omega))
                have PA := Lib.hid pa
                have LA := Lib.hid (show low _ 65536 from la.mono (by omega))
                have Q1 := Lib.hid q1
                have HJ := Lib.hid (show (oz k).natAbs ≤ 64 by omega)
                have P2 := Lib.hid (pa.scale q1 (la.mono (by omega)) (show (oz k).natAbs ≤ 64 by omega) (by omega))
                have L2 := Lib.hid (la.mul (j := oz k) (c := 8) (C := 4194304) q2 (by omega))
                have HSW := Lib.hid (HS.out.far (Far.below HB9.out htop))
                clear p1 l1 pa la q1 q2 hBk
                go_wp2_with fail
                refine (nbrClosed lo hi _ c xs n i0 (moI n 1 i0 k) (k : Int) HN.out (by omega) hlt (moI_lt hlt) (by omega) (by omega) (tm_mo1 hlt hkL) _ HSW.out).mono ?_
                rintro e1 w1 ⟨rfl, rfl⟩
                go_wp2_with fail
                refine (scaledR PA.out Q1.out LA.out HJ.out (by omega) _).mono ?_
                rintro e1 w2 ⟨rfl, rfl⟩
                go_wp2_with fail
                refine (plusR P1.out P2.out L1.out L2.out _).mono ?_
                rintro e1 w3 ⟨rfl, rfl⟩
                go_wp2_with fail
                exact ⟨⟨k + 1, by omega, by go_num, by rw [EM.out], Lib.hid (by first | exact trivial | rfl)⟩, by simp [intOf]; omega⟩
              · have hke : k = 1 := by omega
                subst hke
                have EF := Lib.hid (show mkF xs mo i0 = maskP xs mo i0 1 by unfold mkF; rw [HLI.out])
                unfold cV
                go_wp2_with (first | (at_builtin; refine wpList_appC rfl _ _ rfl _ _ [maskP xs mo i0 1] rfl (by simp) (by simp) _ _ _ _ _ _ _ _ rfl rfl rfl (by first | rfl | simp) HR9.out (by omega) ?_; intro b5 cap5 w5 hr5 hbb5 hgr5; have HR5 := Lib.hid hr5; have HB5 := Lib.hid hbb5; have HG5 := Lib.hid hgr5; clear hr5 hbb5 hgr5))
                have hb5 := HB5.out
                have hbg := HG5.out.below (B := w.heap.size) hb9 HB9.out.size
                exact ⟨⟨2, b5, cap5, m9 + 1, ys ++ [mkF xs mo i0], by omega, by go_num, Lib.hid (by rw [HY9.out]; simp), Lib.hid (by rw [List.length_append, ← HM9.out]; rfl), by omega, rfl, by omega, Lib.hid (by rw [EF.out]; exact HR5.out), Lib.hid (HB9.out.trans hbg)⟩, by simp [intOf]⟩
          · subst hL
            have hLO := HLO.out
            have hLI : mo.length = 3 := hLO
            obtain ⟨bM, hbM, hm1, hm2, hmc⟩ := HMO.out
            rw [hbM]
            have hix : ∀ w, (Instr.index 73 (.agg #[.slice aE LE cE, .slice (some ⟨bM, 0, none⟩) 3 cO]) (.int .i64 1)).run Try.prog w = .ok (.slice (some ⟨bM, 0, none⟩) 3 cO) w := fun w => rfl
            have HMC := Lib.hid hmc
            have HLI := Lib.hid hLI
            clear hmc hLI
            go_wp2_with fail
            go_loopw [12, 44] (fun s i wr => ∃ k : Nat, k ≤ 3 ∧ i = .int .i64 k ∧ s = cV (maskP xs mo i0 k) ∧ Hid (wr = w9)) (fun _ i _ => 3 - (intOf i).toNat)
            case atStart => exact ⟨0, by omega, rfl, rfl, Lib.hid rfl⟩
            case round =>
              obtain ⟨k, hk, rfl, rfl, HW⟩ := hrel
              have := HW.out
              subst this
              by_cases hkL : k < 3
              · have hcell := (HB9.out.cell (p := ⟨bM, k, none⟩) (by show bM < w.heap.size; omega)).trans (HMC.out k (by rw [HLI.out]; exact hkL))
                have kk0 : (0 : Int) ≤ (k : Int) := by omega
                have kk1 : (k : Int) < 3 := by omega
                obtain ⟨p1, l1⟩ := mask_px HPL.out hB he HGO.out (show i0 < xs.length by rw [HN.out]; exact hlt) k (by rw [HLI.out]; omega)
                obtain ⟨pa, la⟩ := HPL.out.pt (moI n 3 i0 k) (by rw [HN.out]; exact moI_lt hlt)
                obtain ⟨q1, q2⟩ := HGO.out.q k (by rw [HLI.out]; exact hkL)
                have EM := Lib.hid (show maskP xs mo i0 (k + 1) = plusF (maskP xs mo i0 k) (scaleF (cAt xs (moI n 3 i0 k)) (mAt mo k)) by rw [maskP, HN.out, HLI.out])
                have hBk : 8 * B * k ≤ 8 * 4096 * 3 := Nat.mul_le_mul (by omega) (by omega)
                have P1 := Lib.hid p1
                have L1 := Lib.hid (show low _ 4194304 from l1.mono (by omega))
                have PA := Lib.hid pa
                have LA := Lib.hid (show low _ 65536 from la.mono (by omega))
                have Q1 := Lib.hid q1
                have HJ := Lib.hid (show (oz k).natAbs ≤ 64 by omega)
                have P2 := Lib.hid (pa.scale q1 (la.mono (by omega)) (show (oz k).natAbs ≤ 64 by omega) (by omega))
                have L2 := Lib.hid (la.mul (j := oz k) (c := 8) (C := 4194304) q2 (by omega))
                have HSW := Lib.hid (HS.out.far (Far.below HB9.out htop))
                clear p1 l1 pa la q1 q2 hBk
                go_wp2_with fail
                refine (nbrClosed lo hi _ c xs n i0 (moI n 3 i0 k) ((k : Int) - 1) HN.out (by omega) hlt (moI_lt hlt) (by omega) (by omega) (tm_mo3 hlt hn2 hkL) _ HSW.out).mono ?_
                rintro e1 w1 ⟨rfl, rfl⟩
                go_wp2_with fail
                refine (scaledR PA.out Q1.out LA.out HJ.out (by omega) _).mono ?_
                rintro e1 w2 ⟨rfl, rfl⟩
                go_wp2_with fail
                refine (plusR P1.out P2.out L1.out L2.out _).mono ?_
                rintro e1 w3 ⟨rfl, rfl⟩
                go_wp2_with fail
                exact ⟨⟨k + 1, by omega, by go_num, by rw [EM.out], Lib.hid (by first | exact trivial | rfl)⟩, by simp [intOf]; omega⟩
              · have hke : k = 3 := by omega
                subst hke
                have EF := Lib.hid (show mkF xs mo i0 = maskP xs mo i0 3 by unfold mkF; rw [HLI.out])
                unfold cV
                go_wp2_with (first | (at_builtin; refine wpList_appC rfl _ _ rfl _ _ [maskP xs mo i0 3] rfl (by simp) (by simp) _ _ _ _ _ _ _ _ rfl rfl rfl (by first | rfl | simp) HR9.out (by omega) ?_; intro b5 cap5 w5 hr5 hbb5 hgr5; have HR5 := Lib.hid hr5; have HB5 := Lib.hid hbb5; have HG5 := Lib.hid hgr5; clear hr5 hbb5 hgr5))
                have hb5 := HB5.out
                have hbg := HG5.out.below (B := w.heap.size) hb9 HB9.out.size
                exact ⟨⟨2, b5, cap5, m9 + 1, ys ++ [mkF xs mo i0], by omega, by go_num, Lib.hid (by rw [HY9.out]; simp), Lib.hid (by rw [List.length_append, ← HM9.out]; rfl), by omega, rfl, by omega, Lib.hid (by rw [EF.out]; exact HR5.out), Lib.hid (HB9.out.trans hbg)⟩, by simp [intOf]⟩
        · go_wp2_with fail
          have EQ := Lib.hid (show pairL (mkF xs me) (mkF xs mo) (i0 + 1) = ys by rw [pairL_succ, HY9.out]; simp)
          have hm2 : m9 = 2 * (i0 + 1) := by rw [HM9.out, ← EQ.out, pairL_len]
          exact ⟨⟨i0 + 1, b9, cap9, m9, by omega, Lib.hid hm2, by omega, by go_num, rfl, hb9, Lib.hid (by rw [EQ.out]; exact HR9.out), HB9⟩, by simp [intOf]; omega⟩
    · have k1 : ¬ (i0 : Int) < (n : Int) := by omega
      have hkn : i0 = n := by omega
      subst hkn
      have hbl := HR.out.lt
      have hmm := HM.out
      have ho := OwnC1.row HR.out (by rw [pairL_len]; exact hmm)
      have HO := Lib.hid ho
      have HIF := Lib.hid (ifRing b wr.heap.size (some ⟨b, 0, none⟩) cap m HPE.out (by rw [pairL_len]; exact hmm.symm) (by omega) (by omega) wr (ho.sl (Nat.le_refl _) hbl))
      clear ho hmm
      go_wp2_with fail
      refine HIF.out.mono ?_
      rintro e1 w3 ⟨rfl, q3, rfl⟩
      clear HIF
      go_wp2_with fail
      go_ret2
      exact ⟨⟨b, cap, m, rfl, HM.out, hb, HO.out.far ((Far.refl 0 (b + 1) _).drewN _) (Nat.zero_le _) (Nat.lt_succ_self _)⟩, below_dr HB.out _⟩
end Go.Proofs.Ytkpjhoiaegioeaa

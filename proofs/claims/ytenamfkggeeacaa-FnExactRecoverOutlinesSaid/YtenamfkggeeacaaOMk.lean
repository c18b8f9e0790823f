/- Marks on outlines, and whether they are held, by the law's own functions. -/
import Derived.Test.YtenamfkggeeacaaOCx
import Derived.Test.YtenamfkggeeacaaOTaken
namespace Go.Fl
open Go.RowKit

/-- from w to w' only cells of blocks in S turned -/
structure Only (S : Nat → Prop) (w w' : World) : Prop where
  os : w'.os = w.os
  tape : w'.tape = w.tape
  output : w'.output = w.output
  size : w'.heap.size = w.heap.size
  block : ∀ c, ¬ S c → w'.heap[c]? = w.heap[c]?
  room : ∀ c n, Room w c n → Room w' c n
theorem Only.refl (S : Nat → Prop) (w : World) : Only S w w := ⟨rfl, rfl, rfl, rfl, fun _ _ => rfl, fun _ _ h => h⟩
theorem Only.trans {S : Nat → Prop} {a b c : World} (h : Only S a b) (k : Only S b c) : Only S a c :=
  ⟨k.os.trans h.os, k.tape.trans h.tape, k.output.trans h.output, k.size.trans h.size, fun i hi => (k.block i hi).trans (h.block i hi), fun i n hr => k.room i n (h.room i n hr)⟩
theorem Only.mono {S S' : Nat → Prop} {w w' : World} (h : Only S w w') (hs : ∀ c, S c → S' c) : Only S' w w' :=
  ⟨h.os, h.tape, h.output, h.size, fun c hc => h.block c (fun q => hc (hs c q)), h.room⟩
theorem Only.set {S : Nat → Prop} {a w : World} (h : Only S a w) (b i : Nat) (v : Value) (hb : S b) : Only S a (w.setCell ⟨b, i, none⟩ v) :=
  h.trans ⟨rfl, rfl, rfl, by simp, fun c hc => RowKit.Below.heap_setCell _ _ _ _ (fun e => hc (e ▸ hb)), fun c n hr => hr.set _ _ _⟩
theorem Only.drewN {S : Nat → Prop} {a w : World} (h : Only S a w) (n : Nat) : Only S a (w.drewN n) := ⟨h.os, h.tape, h.output, h.size, h.block, h.room⟩
theorem Only.far {S : Nat → Prop} {w w' : World} (h : Only S w w') {lo hi : Nat} (hs : ∀ c, S c → c < lo ∨ hi ≤ c) : Far lo hi w w' := fun c h1 h2 => h.block c (fun q => by have := hs c q; omega)
theorem Only.below {S : Nat → Prop} {w w' : World} (h : Only S w w') {B : Nat} (hs : ∀ c, S c → B ≤ c) : RowKit.Below B w w' :=
  ⟨h.os, h.tape, h.output, Nat.le_of_eq h.size.symm, fun c hc => h.block c (fun q => by have := hs c q; omega)⟩
theorem Only.cell {S : Nat → Prop} {w w' : World} (h : Only S w w') {b o : Nat} (hb : ¬ S b) : w'.cell? ⟨b, o, none⟩ = w.cell? ⟨b, o, none⟩ := World.cell?_of_block (w := w) (a := ⟨b, o, none⟩) (h.block b hb)

/-- from w to w' only blocks from lo up to hi turned, and new ones came -/
structure Kept (lo hi : Nat) (w w' : World) : Prop where
  os : w'.os = w.os
  tape : w'.tape = w.tape
  output : w'.output = w.output
  size : w.heap.size ≤ w'.heap.size
  block : ∀ c, c < w.heap.size → ¬ (lo ≤ c ∧ c < hi) → w'.heap[c]? = w.heap[c]?
  room : ∀ c n, c < w.heap.size → Room w c n → Room w' c n
theorem Room.same {w w' : World} {c n : Nat} (h : w'.heap[c]? = w.heap[c]?) (hr : Room w c n) : Room w' c n := hr.far (lo := c) (hi := c + 1) (fun _ h1 h2 => (Nat.le_antisymm (Nat.lt_succ_iff.1 h2) h1) ▸ h) (Nat.le_refl _) (Nat.lt_succ_self _)
theorem Kept.of_below {w w' : World} (h : RowKit.Below w.heap.size w w') (lo hi : Nat) : Kept lo hi w w' := ⟨h.os, h.tape, h.output, h.size, fun c hc _ => h.block c hc, fun c _ hc hr => Room.same (h.block c hc) hr⟩
theorem Kept.trans {lo hi : Nat} {a b c : World} (h : Kept lo hi a b) (k : Kept lo hi b c) : Kept lo hi a c :=
  ⟨k.os.trans h.os, k.tape.trans h.tape, k.output.trans h.output, Nat.le_trans h.size k.size, fun i h1 h2 => (k.block i (Nat.lt_of_lt_of_le h1 h.size) h2).trans (h.block i h1 h2), fun i n h1 hr => k.room i n (Nat.lt_of_lt_of_le h1 h.size) (h.room i n h1 hr)⟩
theorem Only.kept {S : Nat → Prop} {w w' : World} (h : Only S w w') {lo hi : Nat} (hs : ∀ c, S c → lo ≤ c ∧ c < hi) : Kept lo hi w w' :=
  ⟨h.os, h.tape, h.output, Nat.le_of_eq h.size.symm, fun c _ hc => h.block c fun q => hc (hs c q), fun c n _ hr => h.room c n hr⟩
theorem Kept.mono {lo hi lo' hi' : Nat} {w w' : World} (h : Kept lo hi w w') (h1 : lo' ≤ lo) (h2 : hi ≤ hi') : Kept lo' hi' w w' := ⟨h.os, h.tape, h.output, h.size, fun c hc hn => h.block c hc (by omega), h.room⟩
theorem Kept.far {lo hi a b : Nat} {w w' : World} (h : Kept lo hi w w') (hb : b ≤ w.heap.size) (hd : b ≤ lo ∨ hi ≤ a) : Far a b w w' := fun c h1 h2 => h.block c (by omega) (by omega)
theorem Kept.below {lo hi B : Nat} {w w' : World} (h : Kept lo hi w w') (hb : B ≤ w.heap.size) (hd : B ≤ lo) : RowKit.Below B w w' :=
  ⟨h.os, h.tape, h.output, h.size, fun c hc => h.block c (by omega) (by omega)⟩

/-- n marks from k on -/
def mL (k n : Nat) : List Cx := (List.range n).map fun i => (mX (k + i), one32)
theorem mL_len (k n : Nat) : (mL k n).length = n := by simp [mL]
theorem mL_at {k n i : Nat} (h : i < n) : cAt (mL k n) i = (mX (k + i), one32) := by simp [mL, cAt, h]
/-- how many numbers the first j loops have -/
def sumL (ls : List (List Cx)) : Nat → Nat
  | 0 => 0
  | j + 1 => sumL ls j + (lpAt ls j).length
/-- the marks of loops -/
def mLs (k : Nat) (ls : List (List Cx)) : List (List Cx) := (List.range ls.length).map fun i => mL (k + sumL ls i) (lpAt ls i).length
theorem mLs_len (k : Nat) (ls : List (List Cx)) : (mLs k ls).length = ls.length := by simp [mLs]
theorem mLs_at {k i : Nat} {ls : List (List Cx)} (h : i < ls.length) : lpAt (mLs k ls) i = mL (k + sumL ls i) (lpAt ls i).length := by simp [mLs, lpAt, h]
theorem sumL_mono (ls : List (List Cx)) {i j : Nat} (h : i ≤ j) : sumL ls i ≤ sumL ls j := by
  induction j with
  | zero => have : i = 0 := by omega
            subst this; exact Nat.le_refl _
  | succ j ih =>
    rcases Nat.lt_or_ge i (j + 1) with h1 | h1
    · exact Nat.le_trans (ih (by omega)) (Nat.le_add_right _ _)
    · have : i = j + 1 := by omega
      subst this; exact Nat.le_refl _
end Go.Fl
namespace Go.Proofs.Ytenamfkggeeacaa
open Go.RowKit Go.Fl

set_option maxHeartbeats 1000000 in
set_option maxRecDepth 100000 in
theorem markC1 (b n c k : Nat) (hk : k + n < 2100) (w : World) (hr : Room w b n) :
    Calls Try.prog 29 #[.slice (some ⟨b, 0, none⟩) n c, .int .i64 (k : Nat)] w fun e w' => e = .returned (.int .i64 ((k + n : Nat) : Int)) ∧ SlC w' b (b + 1) (some ⟨b, 0, none⟩) (mL k n) ∧ Only (fun c => c = b) w w' := by
  have HR := Lib.hid hr
  clear hr
  go_enter Try.func29, Try.ntmps29
  go_wp2_with fail
  go_loopw [1, 5] (fun kk i wr => ∃ j kj : Nat, j ≤ n ∧ Hid (kj = k + j) ∧ i = .int .i64 j ∧ kk = .int .i64 kj ∧ Hid (Only (fun c => c = b) w wr) ∧ Hid (∀ t : Nat, t < j → wr.cell? ⟨b, t, none⟩ = some (cV (mX (k + t), one32)))) (fun _ i _ => n - (intOf i).toNat)
  case atStart => exact ⟨0, k, by omega, rfl, rfl, rfl, Only.refl _ _, fun t ht => absurd ht (Nat.not_lt_zero _)⟩
  case round =>
    obtain ⟨j, kj, hj, HK, rfl, rfl, HO, HC⟩ := hrel
    have hkj := HK.out
    by_cases hlt : j < n
    · have hroom := HO.out.room _ _ HR.out
      obtain ⟨v, c1⟩ := hroom.cell hlt
      have c2 := hroom.free j
      obtain ⟨m1, m2, m3⟩ := mOk_at (k := kj) (by omega)
      have k0 : (0 : Int) ≤ (j : Int) := by omega
      have k1 : (j : Int) < (n : Int) := by omega
      have k2 : (kj : Int) < 2100 := by omega
      clear hroom hkj
      have HV := Lib.hid c1
      go_wp2_with fail
      go_roundw
      case rel =>
        have hkj := HK.out
        refine ⟨j + 1, kj + 1, by omega, Lib.hid (by omega), by go_num, by go_num, HO.out.set _ _ _ rfl, fun t ht => ?_⟩
        by_cases ht2 : t = j
        · subst ht2
          rw [← hkj]
          exact World.cell?_setCell_same _ _ _ HV.out
        · rw [World.cell?_setCell_other _ _ _ _ (by first | omega | (simp; done) | (simp; omega))]
          exact HC.out t (by omega)
      case measure => simp [intOf]; omega
    · have hjn : j = n := by omega
      subst hjn
      subst hkj
      go_wp2_with fail
      go_ret
      refine ⟨rfl, fun _ => ⟨b, rfl, Nat.le_refl _, Nat.lt_succ_self _, fun i hi => ?_⟩, HO.out⟩
      rw [mL_len] at hi
      rw [HC.out i hi, mL_at hi]

set_option maxHeartbeats 1000000 in
set_option maxRecDepth 100000 in
theorem heldC1 (lo hi : Nat) (a : Option Addr) (n c k : Nat) (hk : k + n < 2100) (w : World) (hs : SlC w lo hi a (mL k n)) :
    Calls Try.prog 30 #[.slice a n c, .int .i64 (k : Nat)] w fun e w' => e = .returned (.int .i64 ((k + n : Nat) : Int)) ∧ w' = w := by
  have HS := Lib.hid hs
  clear hs
  go_enter Try.func30, Try.ntmps30
  go_wp2_with fail
  go_loopw [1, 5] (fun kk i wr => ∃ j kj : Nat, j ≤ n ∧ Hid (kj = k + j) ∧ i = .int .i64 j ∧ kk = .int .i64 kj ∧ wr = w) (fun _ i _ => n - (intOf i).toNat)
  case atStart => exact ⟨0, k, by omega, rfl, rfl, rfl, rfl⟩
  case round =>
    obtain ⟨j, kj, hj, HK, rfl, rfl, rfl⟩ := hrel
    have hkj := HK.out
    by_cases hlt : j < n
    · obtain ⟨b1, rfl, _, _, hc⟩ := HS.out (by rw [mL_len]; omega)
      have c1 := hc j (by rw [mL_len]; omega)
      rw [mL_at hlt, ← hkj] at c1
      simp only [cV] at c1
      obtain ⟨m1, m2, m3⟩ := mOk_at (k := kj) (by omega)
      have o1 : (FloatKind.f32.format.order (mX kj) (mX kj) == some Ordering.eq) = true := by rw [order_self m3]; rfl
      have o2 : (FloatKind.f32.format.order one32 one32 == some Ordering.eq) = true := by rw [order_self one32_nan]; rfl
      have k0 : (0 : Int) ≤ (j : Int) := by omega
      have k1 : (j : Int) < (n : Int) := by omega
      have k2 : (kj : Int) < 2100 := by omega
      clear hc hkj
      go_wp2_with fail
      go_roundw
      case rel =>
        have hkj := HK.out
        exact ⟨j + 1, kj + 1, by omega, Lib.hid (by omega), by go_num, by go_num, trivial⟩
      case measure => simp [intOf]; omega
    · have hjn : j = n := by omega
      subst hjn
      subst hkj
      go_wp2_with fail
      go_ret
      exact ⟨rfl, rfl⟩

theorem hdrs_at {ls : List (List Cx)} {g c : Nat → Nat} {n i : Nat} (h : i < n) : (hdrs ls g c n)[i]? = some (.slice (some ⟨g i, 0, none⟩) (lpAt ls i).length (c i)) := by simp [hdrs, h]

set_option maxHeartbeats 1000000 in
theorem markC2 (T : TypeId) (base top : Nat) (ao : Option Addr) (cap : Nat) (ls : List (List Cx)) (k : Nat) (hn : ls.length ≤ 1048576) (hk : k + sumL ls ls.length < 2100) (w : World) (hl : LsAt w T base top ao cap ls) :
    Calls Try.prog 18 #[.slice ao ls.length cap, .int .i64 (k : Nat)] w fun e w' => e = .returned (.int .i64 ((k + sumL ls ls.length : Nat) : Int)) ∧ SlL w' base top ao (mLs k ls) ∧ Only (fun c => base ≤ c ∧ c < top) w w' := by
  rcases hl with ⟨rfl, rfl, rfl⟩ | ⟨b, g, c, rfl, h1, h2, h3, h4⟩
  · go_enter Try.func18, Try.ntmps18
    go_wp2_with fail
    refine wp_loop_rounds 1 ?_
    rw [rounds_succ]
    go_wp2_with fail
    go_ret
    exact ⟨rfl, fun hp => absurd hp (Nat.lt_irrefl _), Only.refl _ _⟩
  have H3 := Lib.hid h3
  have H4 := Lib.hid h4
  clear h3 h4
  go_enter Try.func18, Try.ntmps18
  go_wp2_with fail
  go_loopw [1, 5] (fun kk i wr => ∃ j kj : Nat, j ≤ ls.length ∧ Hid (kj = k + sumL ls j) ∧ i = .int .i64 j ∧ kk = .int .i64 kj ∧ Hid (Only (fun c => ∃ t, t < j ∧ c = g t) w wr) ∧ Hid (∀ t : Nat, t < j → SlC wr (g t) (g t + 1) (some ⟨g t, 0, none⟩) (mL (k + sumL ls t) (lpAt ls t).length))) (fun _ i _ => ls.length - (intOf i).toNat)
  case atStart => exact ⟨0, k, by omega, rfl, rfl, rfl, Only.refl _ _, fun t ht => absurd ht (Nat.not_lt_zero _)⟩
  case round =>
    obtain ⟨j, kj, hj, HK, rfl, rfl, HO, HC⟩ := hrel
    by_cases hlt : j < ls.length
    · obtain ⟨a1, a2, a3, a4, a5⟩ := H4.out j hlt
      have hb : ¬ ∃ t, t < j ∧ b = g t := fun ⟨t, ht, e⟩ => (H4.out t (by omega)).2.2.1 e.symm
      have c1 := (HO.out.cell (o := j) hb).trans ((H3.out.cell j (by omega)).trans (hdrs_at hlt))
      have hroom := HO.out.room _ _ a4.1
      have HRM := Lib.hid hroom
      have HA := Lib.hid (⟨a1, a2, a3, a5⟩ : base ≤ g j ∧ g j < top ∧ g j ≠ b ∧ ∀ t, t < j → g t ≠ g j)
      have hsum : kj + (lpAt ls j).length < 2100 := by
        have e1 := HK.out
        have e2 := sumL_mono ls (show j + 1 ≤ ls.length from hlt)
        have e3 : sumL ls (j + 1) = sumL ls j + (lpAt ls j).length := rfl
        omega
      have k0 : (0 : Int) ≤ (j : Int) := by omega
      have k1 : (j : Int) < (ls.length : Int) := by omega
      clear hroom a1 a2 a3 a4 a5 hb
      have HS := Lib.hid hsum
      clear hsum
      go_wp2_with (go_at_call 29; refine (markC1 (g j) (lpAt ls j).length (c j) kj HS.out _ HRM.out).mono ?_; rintro e w3 ⟨rfl, hs3, ho3⟩; have HS3 := Lib.hid hs3; have HO3 := Lib.hid ho3; clear hs3 ho3)
      go_roundw
      case rel =>
        refine ⟨j + 1, kj + (lpAt ls j).length, by omega, Lib.hid (by rw [HK.out, Nat.add_assoc]; rfl), by go_num, rfl, ?_, fun t ht => ?_⟩
        · exact Lib.hid ((HO.out.mono fun c ⟨t, ht, e⟩ => ⟨t, by omega, e⟩).trans (HO3.out.mono fun c e => ⟨j, by omega, e⟩))
        · by_cases ht2 : t = j
          · subst ht2
            rw [← HK.out]
            exact HS3.out
          · have hne := HA.out.2.2.2 t (by omega)
            exact (HC.out t (by omega)).far (HO3.out.far fun c e => by omega)
      case measure => simp [intOf]; omega
    · have hjn : j = ls.length := by omega
      subst hjn
      have hkj := HK.out
      subst hkj
      go_wp2_with fail
      go_ret
      refine ⟨rfl, fun _ => ⟨b, rfl, h1, h2, fun i hi => ?_⟩, HO.out.mono fun c ⟨t, ht, e⟩ => by have := H4.out t ht; omega⟩
      rw [mLs_len] at hi
      have hb : ¬ ∃ t, t < ls.length ∧ b = g t := fun ⟨t, ht, e⟩ => (H4.out t ht).2.2.1 e.symm
      have hi4 := H4.out i hi
      refine ⟨some ⟨g i, 0, none⟩, c i, ?_, ?_⟩
      · rw [mLs_at hi, mL_len]
        exact (HO.out.cell (o := i) hb).trans ((H3.out.cell i (by omega)).trans (hdrs_at hi))
      · rw [mLs_at hi]
        exact (HC.out i hi).mono hi4.1 (by omega)

set_option maxHeartbeats 1000000 in
set_option maxRecDepth 100000 in
theorem heldC2 (lo hi : Nat) (ao : Option Addr) (cap : Nat) (ls : List (List Cx)) (k : Nat) (hn : ls.length ≤ 1048576) (hk : k + sumL ls ls.length < 2100) (w : World) (hs : SlL w lo hi ao (mLs k ls)) :
    Calls Try.prog 19 #[.slice ao ls.length cap, .int .i64 (k : Nat)] w fun e w' => e = .returned (.int .i64 ((k + sumL ls ls.length : Nat) : Int)) ∧ w' = w := by
  have H3 := Lib.hid hs
  clear hs
  go_enter Try.func19, Try.ntmps19
  go_wp2_with fail
  go_loopw [1, 5] (fun kk i wr => ∃ j kj : Nat, j ≤ ls.length ∧ Hid (kj = k + sumL ls j) ∧ i = .int .i64 j ∧ kk = .int .i64 kj ∧ wr = w) (fun _ i _ => ls.length - (intOf i).toNat)
  case atStart => exact ⟨0, k, by omega, rfl, rfl, rfl, rfl⟩
  case round =>
    obtain ⟨j, kj, hj, HK, rfl, rfl, rfl⟩ := hrel
    by_cases hlt : j < ls.length
    · obtain ⟨b, rfl, _, _, hc⟩ := H3.out (by rw [mLs_len]; omega)
      obtain ⟨ai, ci, c1, s1⟩ := hc j (by rw [mLs_len]; omega)
      rw [mLs_at hlt, mL_len] at c1
      rw [mLs_at hlt, ← HK.out] at s1
      have hsum : kj + (lpAt ls j).length < 2100 := by
        have e1 := HK.out
        have e2 := sumL_mono ls (show j + 1 ≤ ls.length from hlt)
        have e3 : sumL ls (j + 1) = sumL ls j + (lpAt ls j).length := rfl
        omega
      have S1 := Lib.hid s1
      have HS := Lib.hid hsum
      have k0 : (0 : Int) ≤ (j : Int) := by omega
      have k1 : (j : Int) < (ls.length : Int) := by omega
      have k2 : ((kj + (lpAt ls j).length : Nat) : Int) < 2100 := by omega
      have k3 : (0 : Int) ≤ ((kj + (lpAt ls j).length : Nat) : Int) := by omega
      clear hc hsum s1
      obtain ⟨kn, hkn⟩ : ∃ x, x = kj + (lpAt ls j).length := ⟨_, rfl⟩
      have HN := Lib.hid hkn
      rw [← hkn] at k2 k3
      clear hkn
      go_wp2_with (go_at_call 30; refine (heldC1 _ _ _ _ _ _ HS.out _ S1.out).mono ?_; rintro e w3 ⟨rfl, rfl⟩; rw [← HN.out])
      go_roundw
      case rel => exact ⟨j + 1, kn, by omega, Lib.hid (by rw [HN.out, HK.out, Nat.add_assoc]; rfl), by go_num, rfl, trivial⟩
      case measure => simp [intOf]; omega
    · have hjn : j = ls.length := by omega
      subst hjn
      have hkj := HK.out
      subst hkj
      go_wp2_with fail
      go_ret
      exact ⟨rfl, rfl⟩

theorem markOl (T : TypeId) (base top : Nat) (ao : Option Addr) (cap : Nat) (nm : ByteArray) (ls : List (List Cx)) (k : Nat) (hn : ls.length ≤ 1048576) (hk : k + sumL ls ls.length < 2100) (w : World) (ht : top ≤ w.heap.size) (hl : LsAt w T base top ao cap ls) :
    Calls Try.prog 8 #[.agg #[.string nm, .slice ao ls.length cap], .int .i64 (k : Nat)] w fun e w' => e = .returned (.int .i64 ((k + sumL ls ls.length : Nat) : Int)) ∧ SlL w' base top ao (mLs k ls) ∧ Kept base top w w' := by
  have HL := Lib.hid hl
  clear hl
  go_enter Try.func8, Try.ntmps8
  go_wp2_with fail
  refine (markC2 T base top ao cap ls k hn hk _ (HL.out.far ((Far.refl _ _ _).alloc _ ht))).mono ?_
  rintro e w1 ⟨rfl, hs1, ho1⟩
  have HS1 := Lib.hid hs1
  have HO1 := Lib.hid ho1
  clear hs1 ho1
  go_wp2_with fail
  go_ret
  refine ⟨rfl, HS1.out, (Kept.of_below (Below.alloc (Below.refl _ _) (Nat.le_refl _) _) base top).trans (HO1.out.kept fun c h => h)⟩

set_option maxRecDepth 100000 in
theorem heldOl (lo hi : Nat) (ao : Option Addr) (cap : Nat) (nm : ByteArray) (ls : List (List Cx)) (k : Nat) (hn : ls.length ≤ 1048576) (hk : k + sumL ls ls.length < 2100) (w : World) (ht : hi ≤ w.heap.size) (hs : SlL w lo hi ao (mLs k ls)) :
    Calls Try.prog 9 #[.agg #[.string nm, .slice ao ls.length cap], .int .i64 (k : Nat)] w fun e w' => e = .returned (.int .i64 ((k + sumL ls ls.length : Nat) : Int)) ∧ Below w.heap.size w w' := by
  have HL := Lib.hid hs
  clear hs
  obtain ⟨kn, hkn⟩ : ∃ x, x = k + sumL ls ls.length := ⟨_, rfl⟩
  have HN := Lib.hid hkn
  have k2 : (kn : Int) < 2100 := by omega
  have k3 : (0 : Int) ≤ (kn : Int) := by omega
  have HK := Lib.hid hk
  clear hk hkn
  go_enter Try.func9, Try.ntmps9
  go_wp2_with fail
  refine (heldC2 lo hi ao cap ls k hn HK.out _ (HL.out.far ((Far.refl _ _ _).alloc _ ht))).mono ?_
  rintro e w1 ⟨rfl, rfl⟩
  rw [← HN.out]
  go_wp2_with fail
  go_ret
  exact ⟨by first | rfl | (rw [← HN.out]; rfl), by (repeat (first | exact Below.refl _ _ | assumption | refine below_dr ?_ _ | refine Below.alloc ?_ (by first | omega | (simp; done) | (simp; omega)) _ | refine Below.setCell ?_ (by first | omega | (simp; done) | (simp; omega)) _ | refine Below.trans ?_ (Below.mono (by assumption) (by first | omega | (simp; done) | (simp; omega)))))⟩
end Go.Proofs.Ytenamfkggeeacaa

/- impl.within, CheckOf, Decimal, JournalOf: the journal of lines, by a strings.Builder. -/
import Derived.Test.YtebikiimnnpgkaaDoorJrnS
import Derived.Test.YtebikiimnnpgkaaDoorBld
import Derived.Test.YtebikiimnnpgkaaDoorShelf
import Derived.Lib.AppendIntMem
namespace Go.Fl
theorem app_cells (a b : List UInt8) (s : ByteArray) : Lib.byteCells a ++ Lib.strCells (⟨b.toArray⟩ ++ ⟨#[32]⟩ ++ s ++ ⟨#[10]⟩) = Lib.byteCells (a ++ (b ++ [32] ++ s.data.toList ++ [10])) := by
  rw [Lib.byteCells_append, Lib.strCells_eq]
  simp [ByteArray.data_append]
theorem bld_put {T e : TypeId} {B b : Nat} {bs cs : List Value} {w : World} (h : bs = cs) (hp : Lib.BuilderAtF T e B b (.pointer (some ⟨b, 0, none⟩)) bs w) : Lib.IsBuilderF T e B b cs w := h ▸ .inr hp
end Go.Fl
namespace Go.Proofs.YtebikiimnnpgkaaDoor
open Go.RowKit Go.Fl

theorem within65003 (n : Int) (h0 : 0 ≤ n) (h1 : n < 65003) (w : World) :
    Calls Tryd.prog 19 #[.int .i64 n, .int .i64 0, .int .i64 65002] w fun e w' => e = .returned (.bool true) ∧ w' = w := by
  have h2 : n ≤ 65002 := by omega
  go_enter Tryd.func19, Tryd.ntmps19
  go_wp2_with fail
  go_ret
  exact ⟨rfl, rfl⟩

set_option maxHeartbeats 1000000 in
theorem checkOf (n : Int) (h0 : 0 ≤ n) (h1 : n < 65003) (s : ByteArray) (hs : s.size ≤ 140737488355328) (w : World) :
    Calls Tryd.prog 11 #[.int .i64 n, .string s] w fun e w' => e = .returned (.tuple #[.int .i64 (chN n s s.size), .bool true]) ∧ w' = w := by
  go_enter Tryd.func11, Tryd.ntmps11
  go_wp2_with (go_at_call 19; refine (within65003 n h0 h1 _).mono ?_; rintro e w1 ⟨rfl, rfl⟩)
  go_loop [0, 6, 12] (fun c _ i => ∃ k : Nat, k ≤ s.size ∧ i = .int .i64 k ∧ c = .int .i64 (chN n s k)) (fun _ _ i => s.size - (intOf i).toNat)
  case atStart => exact ⟨0, by omega, rfl, rfl⟩
  case round =>
    obtain ⟨k, hk, rfl, rfl⟩ := hrel
    have hr := chN_range n s h0 h1 k
    by_cases hlt : k < s.size
    · have k0 : (0 : Int) ≤ (k : Int) := by omega
      have k1 : (k : Int) < (s.size : Int) := by omega
      have hb := bAt_lt hlt
      have hb2 := bAt_range s k
      rw [hb] at hb2
      have hb3 := s[k].toNat_lt
      go_wp2_with fail
      exact ⟨⟨k + 1, by omega, by go_num, by rw [chN, hb]⟩, by simp [intOf]; omega⟩
    · have hkk : k = s.size := by omega
      subst hkk
      go_wp2_with fail
      go_ret2
      exact ⟨rfl, rfl⟩

/-- the table that the library's decimal digits are read by -/
def Tab (w : World) : Prop := Lib.TabBelow Tryd.prog w.heap.size w "internal/strconv.uint64pow10" .u64 Lib.pow10Tab
theorem Tab.on {w w' : World} (h : Tab w) (hb : Below w.heap.size w w') : Tab w' := fun w2 h2 => h w2 (hb.trans (h2.mono hb.size))
theorem Tab.is {w : World} (h : Tab w) : Lib.TabIs Tryd.prog w "internal/strconv.uint64pow10" .u64 Lib.pow10Tab := h.here

theorem decimal (n : Int) (h0 : -9223372036854775808 ≤ n) (h1 : n ≤ 9223372036854775807) (w : World) (ht : Tab w) :
    Calls Tryd.prog 13 #[.int .i64 n] w fun e w' => e = .returned (.string ⟨(Lib.itoa n).toArray⟩) ∧ Below w.heap.size w w' := by
  have HT := Lib.hid ht
  clear ht
  go_enter Tryd.func13, Tryd.ntmps13
  go_wp2_with (go_at_call 21; refine (Tryd.strconv_FormatInt_10 n h0 h1 _ HT.out.is).mono ?_; rintro e w1 ⟨rfl, k, os, rfl⟩)
  go_ret
  exact ⟨rfl, Lib.below_grow _ _ (Nat.le_refl _) _ _⟩

theorem containsNl (s : ByteArray) (w : World) (hp : Plain s s.size) :
    Calls Tryd.prog 10 #[.string s, .string ⟨#[10]⟩] w fun e w' => e = .returned (.bool false) ∧ w' = w := by
  refine (Tryd.strings_Contains_one s 10 w).mono ?_
  rintro e w' ⟨rfl, rfl⟩
  have := (plain_iff s).1 hp
  refine ⟨?_, rfl⟩
  rw [decide_eq_false (by omega)]
theorem containsNl' (s : ByteArray) (w : World) (hp : ¬ Plain s s.size) :
    Calls Tryd.prog 10 #[.string s, .string ⟨#[10]⟩] w fun e w' => e = .returned (.bool true) ∧ w' = w := by
  refine (Tryd.strings_Contains_one s 10 w).mono ?_
  rintro e w' ⟨rfl, rfl⟩
  have : ¬ Lib.indexByte s.data.toList 10 < 0 := fun h => hp ((plain_iff s).2 h)
  refine ⟨?_, rfl⟩
  rw [decide_eq_true (by omega)]

set_option maxHeartbeats 2000000 in
theorem jrnB (lo hi : Nat) (ao : Option Addr) (c : Nat) (ps : List ByteArray) (hn : ps.length ≤ 1048576) (hl : lens ps ps.length ≤ 1048576) (w : World) (hs : SlT w lo hi ao ps) (hh : hi ≤ w.heap.size) (ht : Tab w) :
    Calls Tryd.prog 7 #[.slice ao ps.length c] w fun e w' => (OkJ ps → e = .returned (.tuple #[.string ⟨(jtx ps ps.length).toArray⟩, .bool true])) ∧ (¬ OkJ ps → e = .returned (.tuple #[.string ⟨#[]⟩, .bool false])) ∧ Below w.heap.size w w' := by
  have HS := Lib.hid hs
  have HT := Lib.hid ht
  clear hs ht
  go_enter Tryd.func7, Tryd.ntmps7
  go_wp2_with fail
  go_loopw [5, 7, 11] (fun n _ i wr => ∃ k : Nat, k ≤ ps.length ∧ i = .int .i64 k ∧ n = .int .i64 (jch ps k) ∧ Hid ((jtx ps k).length ≤ 16000) ∧ Hid (Plains ps k) ∧ Hid (Lib.IsBuilderF 33 5 w.heap.size w.heap.size (Lib.byteCells (jtx ps k)) wr) ∧ Hid (Below w.heap.size w wr)) (fun _ _ i _ => ps.length - (intOf i).toNat)
  case atStart => exact ⟨0, by omega, rfl, rfl, (show 0 ≤ 16000 by omega), fun i h => absurd h (Nat.not_lt_zero _), Lib.IsBuilderF.of (Lib.fresh_isBuilder _ _ w), Below.alloc (Below.refl _ _) (Nat.le_refl _) _⟩
  case round =>
    obtain ⟨k, hk, rfl, rfl, HJ, HP, HI, HW⟩ := hrel
    have hz := HW.out.size
    by_cases hlt : k < ps.length
    · obtain ⟨b1, o1, rfl, _, q1, hc1⟩ := HS.out.far (Far.below HW.out hh) (by omega)
      have c1 := hc1 k hlt
      clear hc1
      have k0 : (0 : Int) ≤ (k : Int) := by omega
      have k1 : (k : Int) < (ps.length : Int) := by omega
      by_cases hp : Plain (sAt ps k) (sAt ps k).size
      · have hch := jch_range ps k
        have hch2 := jch_range ps (k + 1)
        have hle2 := itoa_len hch2.1 hch2.2
        have hle5 := jtx_len ps k
        have hjl := HJ.out
        have hs1 : (sAt ps k).size ≤ 1048576 := by
          have := lens_mono ps (show k + 1 ≤ ps.length by omega)
          simp only [lens] at this; omega
        have hjn : chN (jch ps k) (sAt ps k) (sAt ps k).size = jch ps (k + 1) := rfl
        have s1 : ¬ (Lib.itoa (jch ps (k + 1))).length + 1 > 9223372036854775807 := by omega
        have s2 : ¬ (Lib.itoa (jch ps (k + 1))).length + 1 + (sAt ps k).size > 9223372036854775807 := by omega
        have s3 : ¬ (Lib.itoa (jch ps (k + 1))).length + 1 + (sAt ps k).size + 1 > 9223372036854775807 := by omega
        have HP2 := Lib.hid hp
        have hcells : Lib.byteCells (jtx ps k) ++ Lib.strCells (⟨(Lib.itoa (jch ps (k + 1))).toArray⟩ ++ ⟨#[32]⟩ ++ sAt ps k ++ ⟨#[10]⟩) = Lib.byteCells (jtx ps (k + 1)) := app_cells _ _ _
        have hsz : (⟨(Lib.itoa (jch ps (k + 1))).toArray⟩ ++ ⟨#[32]⟩ ++ sAt ps k ++ ⟨#[10]⟩ : ByteArray).size = (Lib.itoa (jch ps (k + 1))).length + 1 + (sAt ps k).size + 1 := by
          rw [ByteArray.size_append, ByteArray.size_append, ByteArray.size_append, size_mk]; rfl
        have hbl : (Lib.byteCells (jtx ps k)).length = (jtx ps k).length := Lib.byteCells_length _
        have hsum : (Lib.byteCells (jtx ps k)).length + (⟨(Lib.itoa (jch ps (k + 1))).toArray⟩ ++ ⟨#[32]⟩ ++ sAt ps k ++ ⟨#[10]⟩ : ByteArray).size ≤ 140737488355328 := by rw [hbl, hsz]; omega
        have hbl2 : (Lib.byteCells (jtx ps (k + 1))).length = (jtx ps (k + 1)).length := Lib.byteCells_length _
        by_cases hbig : (jtx ps (k + 1)).length ≤ 16000
        · have hbig1 : ¬ (16000 : Int) < ((jtx ps (k + 1)).length : Int) := by omega
          have HJ2 := Lib.hid hbig
          clear hle5 hbig
          go_wp2_with (first | (go_at_call 10; refine (containsNl _ _ HP2.out).mono ?_; rintro e w1 ⟨rfl, rfl⟩) | (go_at_call 11; refine (checkOf _ hch.1 hch.2 (sAt ps k) (by omega) _).mono ?_; rintro e w1 ⟨rfl, rfl⟩; rw [hjn]) | (go_at_call 13; refine (decimal _ (by omega) (by omega) _ (HT.out.on HW.out)).mono ?_; rintro e w2 ⟨rfl, hb2⟩; have HI2 := Lib.hid (bld_below HI.out hb2); have HB2 := Lib.hid (HW.out.trans (hb2.mono hz)); clear hb2) | (go_at_call 12; refine (writeString w.heap.size w.heap.size _ _ _ HI2.out hsum HB2.out.size).mono ?_; rintro e w3 ⟨rfl, h3, hb3⟩; have HI3 := Lib.hid (bld_put hcells h3); have HB3 := Lib.hid (HB2.out.trans hb3); clear h3 hb3) | (go_at_call 14; refine (Tryd.Builder_Len_f w.heap.size w.heap.size _ _ HI3.out).mono ?_; rintro e w4 ⟨rfl, rfl⟩; rw [hbl2]))
          go_roundw
          case rel => exact ⟨k + 1, by omega, by go_num, rfl, HJ2, HP.out.succ HP2.out, HI3, HB3⟩
          case measure => simp [intOf]; omega
        · have hbig1 : (16000 : Int) < ((jtx ps (k + 1)).length : Int) := by omega
          have hno : ¬ OkJ ps := fun ⟨_, h2⟩ => by
            have := jtx_mono ps (show k + 1 ≤ ps.length by omega)
            omega
          clear hle5 hbig
          go_wp2_with (first | (go_at_call 10; refine (containsNl _ _ HP2.out).mono ?_; rintro e w1 ⟨rfl, rfl⟩) | (go_at_call 11; refine (checkOf _ hch.1 hch.2 (sAt ps k) (by omega) _).mono ?_; rintro e w1 ⟨rfl, rfl⟩; rw [hjn]) | (go_at_call 13; refine (decimal _ (by omega) (by omega) _ (HT.out.on HW.out)).mono ?_; rintro e w2 ⟨rfl, hb2⟩; have HI2 := Lib.hid (bld_below HI.out hb2); have HB2 := Lib.hid (HW.out.trans (hb2.mono hz)); clear hb2) | (go_at_call 12; refine (writeString w.heap.size w.heap.size _ _ _ HI2.out hsum HB2.out.size).mono ?_; rintro e w3 ⟨rfl, h3, hb3⟩; have HI3 := Lib.hid (bld_put hcells h3); have HB3 := Lib.hid (HB2.out.trans hb3); clear h3 hb3) | (go_at_call 14; refine (Tryd.Builder_Len_f w.heap.size w.heap.size _ _ HI3.out).mono ?_; rintro e w4 ⟨rfl, rfl⟩; rw [hbl2]))
          go_ret2
          exact ⟨fun h => absurd h hno, fun _ => rfl, HB3.out⟩
      · have hno : ¬ OkJ ps := fun ⟨h1, _⟩ => hp (h1 k hlt)
        go_wp2_with (go_at_call 10; refine (containsNl' _ _ hp).mono ?_; rintro e w1 ⟨rfl, rfl⟩)
        go_ret2
        exact ⟨fun h => absurd h hno, fun _ => rfl, HW.out⟩
    · have hkk : k = ps.length := by omega
      subst hkk
      have hok : OkJ ps := ⟨HP.out, HJ.out⟩
      go_wp2_with (go_at_call 15; refine (Tryd.Builder_String_any_f w.heap.size w.heap.size _ _ HI.out hz).mono ?_; rintro e w1 ⟨rfl, h1, h2⟩)
      go_ret2
      exact ⟨fun _ => rfl, fun h => absurd hok h, HW.out.trans h2⟩
end Go.Proofs.YtebikiimnnpgkaaDoor

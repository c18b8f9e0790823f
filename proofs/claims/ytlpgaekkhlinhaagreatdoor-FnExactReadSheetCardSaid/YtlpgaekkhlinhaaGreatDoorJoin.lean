/- strings.Join with a comma, over this dump's own builder; the program's joined. -/
import Derived.Test.YtlpgaekkhlinhaaGreatDoorBld
import Derived.Test.YtlpgaekkhlinhaaGreatDoorHex
import Derived.Test.YtlpgaekkhlinhaaGreatDoorStr0
import Derived.Test.YtlpgaekkhlinhaaGreatDoorShelf
namespace Go.Fl
open Go.RowKit
/-- the bytes of strings -/
def bytesL (ps : List ByteArray) : List (List UInt8) := ps.map fun s => s.data.toList
/-- strings joined by commas, k of them -/
def jn (ps : List ByteArray) (k : Nat) : List UInt8 := Lib.join (bytesL (ps.take k)) [44]
theorem sAt_get {ps : List ByteArray} {k : Nat} (h : k < ps.length) : sAt ps k = ps[k] := by simp [sAt, h]
theorem jn_one {ps : List ByteArray} (h : 0 < ps.length) : jn ps 1 = (sAt ps 0).data.toList := by
  cases ps with
  | nil => simp at h
  | cons p ps => simp [jn, bytesL, Lib.join_one, sAt]
theorem jn_succ {ps : List ByteArray} {k : Nat} (h : k < ps.length) (h0 : 0 < k) : jn ps (k + 1) = jn ps k ++ [44] ++ (sAt ps k).data.toList := by
  have h1 : ps.take (k + 1) = ps.take k ++ [ps[k]] := List.take_succ_eq_append_getElem h
  have h2 := textL_snoc (bytesL (ps.take k)) (ps[k]).data.toList (by
    intro e
    have := congrArg List.length e
    rw [bytesL, List.length_map, List.length_take, List.length_nil] at this
    omega)
  rw [jn, jn, h1, bytesL, List.map_append, List.map_cons, List.map_nil, sAt_get h]
  rw [textL, if_neg (by simp)] at h2
  rw [textL, if_neg (by
    intro e
    have := congrArg List.length e
    rw [bytesL, List.length_map, List.length_take, List.length_nil] at this
    omega)] at h2
  exact h2
theorem jn_len (ps : List ByteArray) (hs : ∀ i, i < ps.length → (sAt ps i).size ≤ 64) (k : Nat) (hk : k ≤ ps.length) : (jn ps k).length ≤ 65 * k := by
  have := join_len8 (bytesL (ps.take k)) 64 (fun x hx => by
    simp only [bytesL, List.mem_map] at hx
    obtain ⟨s, hs1, rfl⟩ := hx
    obtain ⟨i, hi, rfl⟩ := List.getElem_of_mem hs1
    rw [List.length_take] at hi
    have := hs i (by omega)
    rw [sAt_get (by omega)] at this
    rw [List.getElem_take]
    simpa using this)
  rw [bytesL, List.length_map, List.length_take] at this
  rw [jn]
  rw [Nat.min_eq_left hk] at this
  exact this
theorem lens_small (ps : List ByteArray) (hs : ∀ i, i < ps.length → (sAt ps i).size ≤ 64) : ∀ k, k ≤ ps.length → lens ps k ≤ 64 * k
  | 0, _ => by simp [lens]
  | k + 1, h => by
    have := lens_small ps hs k (by omega)
    have := hs k (by omega)
    simp only [lens]; omega
theorem bld_use {T e : TypeId} {B b : Nat} {bs cs : List Value} {w : World} (h : bs = cs) (hp : Lib.BuilderAtF T e B b (.pointer (some ⟨b, 0, none⟩)) bs w) : Lib.IsBuilderF T e B b cs w := h ▸ .inr hp
theorem strc (l : List UInt8) (s : ByteArray) : Lib.byteCells l ++ Lib.strCells s = Lib.byteCells (l ++ s.data.toList) := by
  rw [Lib.byteCells_append, Lib.strCells_eq]
end Go.Fl
namespace Go.Proofs.YtlpgaekkhlinhaaGreatDoor
open Go.RowKit Go.Fl

set_option maxHeartbeats 4000000 in
set_option maxRecDepth 100000 in
theorem joinMany (lo hi b o c : Nat) (ps : List ByteArray) (h2 : 2 ≤ ps.length) (hN : ps.length ≤ 1000) (hcap : ps.length ≤ c) (hsz : ∀ i, i < ps.length → (sAt ps i).size ≤ 64) (w : World) (hs : SlT w lo hi (some ⟨b, o, none⟩) ps) (hh : hi ≤ w.heap.size) :
    Calls Tryz.prog 105 #[.slice (some ⟨b, o, none⟩) ps.length c, .string ⟨#[44]⟩] w fun e w' => e = .returned (.string ⟨(jn ps ps.length).toArray⟩) ∧ Below w.heap.size w w' := by
  obtain ⟨b', o', he, q1, q2, hc⟩ := hs (by omega)
  obtain ⟨rfl, rfl⟩ : b = b' ∧ o = o' := by cases he; exact ⟨rfl, rfl⟩
  have hbl : b < w.heap.size := by omega
  have HC := Lib.hid hc
  have HZ := Lib.hid hsz
  clear he hc hs hsz
  have ne0 : ((ps.length : Int) == 0) = false := beq_eq_false_iff_ne.2 (by omega)
  have ne1 : ((ps.length : Int) == 1) = false := beq_eq_false_iff_ne.2 (by omega)
  have hd : ¬ (9223372036854775807 / ((ps.length : Int) - 1) ≤ 1) := by
    have : (2 : Int) ≤ 9223372036854775807 / ((ps.length : Int) - 1) := by
      rw [Int.le_ediv_iff_mul_le (by omega)]; omega
    omega
  go_enter Tryz.func105, Tryz.ntmps105
  go_wp2_with fail
  go_loop [5, 41] (fun n i => ∃ k : Nat, k ≤ ps.length ∧ i = .int .i64 k ∧ n = .int .i64 ((ps.length - 1 + lens ps k : Nat) : Int)) (fun _ i => ps.length - (intOf i).toNat)
  case atStart => exact ⟨0, Nat.zero_le _, rfl, by show Value.int .i64 _ = Value.int .i64 _; congr 1; simp [lens]; omega⟩
  case round =>
    obtain ⟨k, hk, rfl, rfl⟩ := hrel
    have hls := lens_small ps HZ.out k hk
    by_cases hlt : k < ps.length
    · have c1 := HC.out k hlt
      have hsk := HZ.out k hlt
      have k0 : (0 : Int) ≤ (k : Int) := by omega
      have k1 : (k : Int) < (ps.length : Int) := by omega
      go_wp2_with fail
      exact ⟨⟨k + 1, by omega, by go_num, by congr 1; simp only [lens]; omega⟩, by simp [intOf]; omega⟩
    · have hkk : k = ps.length := by omega
      subst hkk
      have hc0 := HC.out 0 (by omega)
      rw [Nat.add_zero] at hc0
      generalize hM : ps.length - 1 + lens ps ps.length = M at *
      have HM := Lib.hid hM
      have hM2 : M ≤ 100000 := by omega
      clear hM hls
      go_wp2_with fail
      refine (Tryz.Builder_Grow_fresh w.heap.size w.heap.size M _ (Nat.le_refl _) (heap_alloc_new w _) (by simp) (by omega)).mono ?_
      rintro e w1 ⟨rfl, h1, hb1⟩
      have HB1 := Lib.hid (((Below.refl w.heap.size w).alloc (Nat.le_refl _) _).trans hb1)
      have H1 := Lib.hid (Lib.IsBuilderF.of (Or.inr h1))
      replace hc0 := (HB1.out.cell (p := ⟨b, o, none⟩) hbl).trans hc0
      clear h1 hb1
      go_wp2_with fail
      refine (writeString w.heap.size w.heap.size _ (sAt ps 0) _ H1.out (by have := HZ.out 0 (by omega); simp; omega) HB1.out.size).mono ?_
      rintro e w2 ⟨rfl, h3, hb3⟩
      have H2 := Lib.hid (bld_use (show ([] : List Value) ++ Lib.strCells (sAt ps 0) = Lib.byteCells (jn ps 1) by rw [jn_one (by omega), Lib.strCells_eq]; rfl) h3)
      have HB2 := Lib.hid (HB1.out.trans hb3)
      clear h3 hb3
      have g1 : (1 : Int) ≤ (ps.length : Int) := by omega
      have g2 : (ps.length : Int) ≤ (c : Int) := by omega
      go_wp2_with fail
      go_loopw [65] (fun i wr => ∃ k : Nat, k + 1 ≤ ps.length ∧ i = .int .i64 k ∧ Hid (Lib.IsBuilderF 154 5 w.heap.size w.heap.size (Lib.byteCells (jn ps (k + 1))) wr) ∧ Hid (Below w.heap.size w wr)) (fun i _ => ps.length - (intOf i).toNat)
      case atStart => exact ⟨0, by omega, rfl, H2, HB2⟩
      case round =>
        obtain ⟨k, hk, rfl, HI, HW⟩ := hrel
        have hz := HW.out.size
        by_cases hlt : k + 1 < ps.length
        · have c1 := (HW.out.cell (p := ⟨b, o + (k + 1), none⟩) hbl).trans (HC.out (k + 1) hlt)
          have hsk := HZ.out (k + 1) hlt
          have k0 : (0 : Int) ≤ (k : Int) := by omega
          have k1 : (k : Int) < (ps.length : Int) - 1 := by omega
          have hjl := jn_len ps HZ.out (k + 1) (by omega)
          have hbc : (Lib.byteCells (jn ps (k + 1))).length = (jn ps (k + 1)).length := Lib.byteCells_length _
          have e0 : o + 1 + k = o + (k + 1) := by omega
          have HJ := Lib.hid (show jn ps (k + 1) ++ [44] ++ (sAt ps (k + 1)).data.toList = jn ps (k + 1 + 1) from (jn_succ hlt (by omega)).symm)
          rw [← e0] at c1
          clear e0
          go_wp2_with fail
          refine (writeString w.heap.size w.heap.size _ ⟨#[44]⟩ _ HI.out (by rw [hbc]; show (jn ps (k + 1)).length + 1 ≤ _; omega) hz).mono ?_
          rintro e w3 ⟨rfl, h3, hb3⟩
          have H3 := Lib.hid (bld_use (strc (jn ps (k + 1)) ⟨#[44]⟩) h3)
          have HB3 := Lib.hid (HW.out.trans hb3)
          clear h3 hb3
          have hbc2 : (Lib.byteCells (jn ps (k + 1) ++ (⟨#[44]⟩ : ByteArray).data.toList)).length = (jn ps (k + 1)).length + 1 := by rw [Lib.byteCells_length, List.length_append]; rfl
          go_wp2_with fail
          refine (writeString w.heap.size w.heap.size _ (sAt ps (k + 1)) _ H3.out (by rw [hbc2]; omega) HB3.out.size).mono ?_
          rintro e w4 ⟨rfl, h4, hb4⟩
          have H4 := Lib.hid (bld_use ((strc _ (sAt ps (k + 1))).trans (congrArg Lib.byteCells HJ.out)) h4)
          have HB4 := Lib.hid (HB3.out.trans hb4)
          clear h4 hb4
          go_wp2_with fail
          go_roundw
          case rel => exact ⟨k + 1, by omega, by go_num, H4, HB4⟩
          case measure => simp [intOf]; omega
        · have hkk : k + 1 = ps.length := by omega
          have hkk2 : ¬ (k : Int) < (ps.length : Int) - 1 := by omega
          have HI2 := Lib.hid (show Lib.IsBuilderF 154 5 w.heap.size w.heap.size (Lib.byteCells (jn ps ps.length)) wr by have := HI.out; rw [hkk] at this; exact this)
          go_wp2_with fail
          refine (Tryz.Builder_String_any_f w.heap.size w.heap.size _ _ HI2.out hz).mono ?_
          rintro e w5 ⟨rfl, _, hb5⟩
          have HB5 := Lib.hid (HW.out.trans hb5)
          clear hb5
          go_wp2_with fail
          go_ret
          exact ⟨rfl, HB5.out⟩

theorem joinOne (b o c : Nat) (x : ByteArray) (w : World) (hc : w.cell? ⟨b, o, none⟩ = some (.string x)) :
    Calls Tryz.prog 105 #[.slice (some ⟨b, o, none⟩) 1 c, .string ⟨#[44]⟩] w fun e w' => e = .returned (.string x) ∧ w' = w := by
  go_enter Tryz.func105, Tryz.ntmps105
  go_wp2_with fail
  go_ret
  exact ⟨rfl, rfl⟩

/-- a text of strings: joined by commas, 'none' of none -/
def strT (ps : List ByteArray) : List UInt8 := textL (bytesL ps)
set_option maxHeartbeats 1000000 in
theorem joined (lo hi c : Nat) (ao : Option Addr) (ps : List ByteArray) (hN : ps.length ≤ 1000) (hcap : ps.length ≤ c) (hsz : ∀ i, i < ps.length → (sAt ps i).size ≤ 64) (w : World) (hs : SlT w lo hi ao ps) (hh : hi ≤ w.heap.size) :
    Calls Tryz.prog 76 #[.slice ao ps.length c] w fun e w' => e = .returned (.string ⟨(strT ps).toArray⟩) ∧ Below w.heap.size w w' := by
  by_cases h0 : ps.length = 0
  · have : ps = [] := List.eq_nil_of_length_eq_zero h0
    subst this
    go_enter Tryz.func76, Tryz.ntmps76
    go_wp2_with fail
    go_ret
    exact ⟨rfl, Below.refl _ _⟩
  have HS := Lib.hid hs
  obtain ⟨b, o, rfl, q1, q2, hc⟩ := hs (by omega)
  have hne : bytesL ps ≠ [] := by
    intro e
    have := congrArg List.length e
    rw [bytesL, List.length_map, List.length_nil] at this
    omega
  have ne0 : ((ps.length : Int) == 0) = false := beq_eq_false_iff_ne.2 (by omega)
  by_cases h1 : ps.length = 1
  · have hc0 := hc 0 (by omega)
    rw [Nat.add_zero] at hc0
    have hr : (⟨(strT ps).toArray⟩ : ByteArray) = sAt ps 0 := by
      obtain ⟨p, rfl⟩ : ∃ p, ps = [p] := by
        cases ps with
        | nil => simp at h1
        | cons p r => cases r with
          | nil => exact ⟨p, rfl⟩
          | cons q r => simp at h1
      show (⟨(textL [p.data.toList]).toArray⟩ : ByteArray) = p
      rw [textL_one]
    have ne1 : ((ps.length : Int) == 1) = true := by rw [h1]; rfl
    have l0 : (0 : Int) < (ps.length : Int) := by omega
    have HR := Lib.hid hr
    clear hc hr hne
    clear hs
    go_enter Tryz.func76, Tryz.ntmps76
    go_wp2_with fail
    refine (joinOne b o c _ _ hc0).mono ?_
    rintro e w1 ⟨rfl, rfl⟩
    go_wp2_with fail
    go_ret
    exact ⟨congrArg (fun t => Ending.returned (.string t)) HR.out.symm, Below.refl _ _⟩
  · have hr : jn ps ps.length = strT ps := by rw [jn, List.take_length, strT, textL, if_neg hne]
    have HR := Lib.hid hr
    clear hc hr hne
    go_enter Tryz.func76, Tryz.ntmps76
    go_wp2_with (go_at_call 105; refine (joinMany lo hi b o c ps (by omega) hN hcap hsz _ HS.out hh).mono ?_; rintro e w1 ⟨rfl, hb1⟩; rw [HR.out])
    go_ret
    exact ⟨rfl, hb1⟩
end Go.Proofs.YtlpgaekkhlinhaaGreatDoor

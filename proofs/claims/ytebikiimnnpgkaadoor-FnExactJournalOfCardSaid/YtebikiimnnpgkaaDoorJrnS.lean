/- spec.l08Journal, spec.JournalOf: the journal of lines. -/
import Derived.Test.YtebikiimnnpgkaaDoorChk
import Derived.Deep.RegionHeld3
namespace Go.Fl
open Go.RowKit
theorem ba_list (s : ByteArray) : (⟨s.data.toList.toArray⟩ : ByteArray) = s := by
  obtain ⟨⟨l⟩⟩ := s
  rfl
theorem app_txt (a b : List UInt8) (s : ByteArray) : (⟨a.toArray⟩ : ByteArray) ++ (⟨b.toArray⟩ ++ ⟨#[32]⟩ ++ s ++ ⟨#[10]⟩) = ⟨(a ++ (b ++ [32] ++ s.data.toList ++ [10])).toArray⟩ := by
  have h1 : (⟨#[32]⟩ : ByteArray) = ⟨[(32 : UInt8)].toArray⟩ := rfl
  have h2 : (⟨#[10]⟩ : ByteArray) = ⟨[(10 : UInt8)].toArray⟩ := rfl
  rw [h1, h2]
  conv => lhs; rw [← ba_list s]
  simp only [ByteArray.mk_append_mk]
theorem size_mk (l : List UInt8) : (⟨l.toArray⟩ : ByteArray).size = l.length := rfl
end Go.Fl
namespace Go.Proofs.YtebikiimnnpgkaaDoor
open Go.RowKit Go.Fl

set_option maxHeartbeats 1000000 in
theorem l08Journal (lo hi : Nat) (ao : Option Addr) (c : Nat) (ps : List ByteArray) (hn : ps.length ≤ 1048576) (hl : lens ps ps.length ≤ 1048576) (w : World) (hs : SlT w lo hi ao ps) (hh : hi ≤ w.heap.size) :
    Calls Tryd.prog 9 #[.slice ao ps.length c] w fun e w' => e = .returned (.string ⟨(jtx ps ps.length).toArray⟩) ∧ Below w.heap.size w w' := by
  have HS := Lib.hid hs
  clear hs
  go_enter Tryd.func9, Tryd.ntmps9
  go_wp2_with fail
  go_loopw [3, 4, 5] (fun t n i wr => ∃ k : Nat, k ≤ ps.length ∧ i = .int .i64 k ∧ n = .int .i64 (jch ps k) ∧ t = .string ⟨(jtx ps k).toArray⟩ ∧ Hid (Below w.heap.size w wr)) (fun _ _ i _ => ps.length - (intOf i).toNat)
  case atStart => exact ⟨0, by omega, rfl, rfl, rfl, Below.refl _ _⟩
  case round =>
    obtain ⟨k, hk, rfl, rfl, rfl, HW⟩ := hrel
    have hz := HW.out.size
    by_cases hlt : k < ps.length
    · obtain ⟨b1, o1, rfl, _, q1, hc1⟩ := HS.out.far (Far.below HW.out hh) (by omega)
      have c1 := hc1 k hlt
      clear hc1
      have k0 : (0 : Int) ≤ (k : Int) := by omega
      have k1 : (k : Int) < (ps.length : Int) := by omega
      have hch := jch_range ps k
      have hch2 := jch_range ps (k + 1)
      have hle1 := jtx_le ps k
      have hle2 := itoa_len hch2.1 hch2.2
      have hle3 := lens_mono ps (show k + 1 ≤ ps.length by omega)
      have hle4 : lens ps (k + 1) = lens ps k + (sAt ps k).size := rfl
      have hjn : chN (jch ps k) (sAt ps k) (sAt ps k).size = jch ps (k + 1) := rfl
      have s1 : ¬ (Lib.itoa (jch ps (k + 1))).length + 1 > 9223372036854775807 := by omega
      have s2 : ¬ (Lib.itoa (jch ps (k + 1))).length + 1 + (sAt ps k).size > 9223372036854775807 := by omega
      have s3 : ¬ (Lib.itoa (jch ps (k + 1))).length + 1 + (sAt ps k).size + 1 > 9223372036854775807 := by omega
      have s4 : ¬ (jtx ps k).length + ((Lib.itoa (jch ps (k + 1))).length + 1 + (sAt ps k).size + 1) > 9223372036854775807 := by omega
      go_wp2_with (go_at_call 16; refine (l01Check _ hch.1 hch.2 (sAt ps k) (by omega) _).mono ?_; rintro e w1 ⟨rfl, rfl⟩; rw [hjn])
      go_region_held3 (fun w' => w'.cell? ⟨b1, o1 + k, none⟩ = some (.string (sAt ps k))) (first | go_keep | (exact keep_cell (by assumption) (by assumption)))
        ((go_at_call 17; refine (l01DecI _ hch2.1 (by omega) _).mono ?_; rintro e w3 ⟨rfl, hb3⟩))
      have HW3 := HW.out.drew.trans (hb3.mono HW.out.size)
      clear hb3 HW
      go_wp2_with fail
      go_roundw
      case rel => exact ⟨k + 1, by omega, by go_num, rfl, by rw [jtx, ← app_txt], HW3⟩
      case measure => simp [intOf]; omega
    · have hkk : k = ps.length := by omega
      subst hkk
      go_wp2_with fail
      go_ret
      exact ⟨rfl, HW.out⟩

set_option maxHeartbeats 1000000 in
theorem jrnS (lo hi : Nat) (ao : Option Addr) (c : Nat) (ps : List ByteArray) (hn : ps.length ≤ 1048576) (hl : lens ps ps.length ≤ 1048576) (w : World) (hs : SlT w lo hi ao ps) (hh : hi ≤ w.heap.size) :
    Calls Tryd.prog 5 #[.slice ao ps.length c] w fun e w' => (OkJ ps → e = .returned (.tuple #[.string ⟨(jtx ps ps.length).toArray⟩, .bool true])) ∧ (¬ OkJ ps → e = .returned (.tuple #[.string ⟨#[]⟩, .bool false])) ∧ Below w.heap.size w w' := by
  have HS := Lib.hid hs
  clear hs
  go_enter Tryd.func5, Tryd.ntmps5
  go_wp2_with fail
  go_loop [4, 5, 6] (fun t i _ => ∃ k : Nat, k ≤ ps.length ∧ i = .int .i64 k ∧ t = .int .i64 (tot ps k : Nat) ∧ Hid (tot ps k ≤ 16000) ∧ Hid (Plains ps k)) (fun _ i _ => ps.length - (intOf i).toNat)
  case atStart => exact ⟨0, by omega, rfl, rfl, (show 0 ≤ 16000 by omega), fun i h => absurd h (Nat.not_lt_zero _)⟩
  case round =>
    obtain ⟨k, hk, rfl, rfl, HT, HP⟩ := hrel
    by_cases hlt : k < ps.length
    · obtain ⟨b1, o1, rfl, _, q1, hc1⟩ := HS.out (by omega)
      have c1 := hc1 k hlt
      clear hc1
      have k0 : (0 : Int) ≤ (k : Int) := by omega
      have k1 : (k : Int) < (ps.length : Int) := by omega
      have hle := HT.out
      by_cases hbig : tot ps k + ((sAt ps k).size + 3) ≤ 16000
      · have hbig1 : ¬ (16000 : Int) < (tot ps k : Int) + (((sAt ps k).size : Int) + 3) := by omega
        have hs1 : (sAt ps k).size ≤ 16000 := by omega
        have HB := Lib.hid hbig
        clear hbig
        go_wp2_with fail
        go_loop [6] (fun j => ∃ m : Nat, m ≤ (sAt ps k).size ∧ j = .int .i64 m ∧ Hid (Plain (sAt ps k) m)) (fun j => (sAt ps k).size - (intOf j).toNat)
        case atStart => exact ⟨0, by omega, rfl, fun i h => absurd h (Nat.not_lt_zero _)⟩
        case round =>
          obtain ⟨m, hm, rfl, HM⟩ := hrel
          by_cases hlm : m < (sAt ps k).size
          · have m0 : (0 : Int) ≤ (m : Int) := by omega
            have m1 : (m : Int) < ((sAt ps k).size : Int) := by omega
            have hb := bAt_lt hlm
            by_cases he : bAt (sAt ps k) m = 10
            · have he2 : ((((sAt ps k)[m].toNat : Nat) : Int) == 10) = true := by rw [← hb, he]; rfl
              have hno : ¬ OkJ ps := fun ⟨h1, _⟩ => h1 k hlt m hlm he
              clear hb he
              go_wp2_with fail
              go_ret2
              exact ⟨rfl, Below.refl _ _⟩
            · have he2 : ((((sAt ps k)[m].toNat : Nat) : Int) == 10) = false := by rw [← hb]; simp; exact he
              have HM2 := Lib.hid (HM.out.succ he)
              clear hb he HM
              go_wp2_with fail
              exact ⟨⟨m + 1, by omega, by go_num, HM2⟩, by simp [intOf]; omega⟩
          · have hmm : m = (sAt ps k).size := by omega
            subst hmm
            go_wp2_with fail
            exact ⟨⟨k + 1, by omega, by go_num, by rw [tot_succ]; go_num, by have := HB.out; rw [← tot_succ] at this; exact this, HP.out.succ HM.out⟩, by simp [intOf]; omega⟩
      · have hbig1 : (16000 : Int) < (tot ps k : Int) + (((sAt ps k).size : Int) + 3) := by omega
        have hs1 : (sAt ps k).size ≤ 1048576 := by
          have := lens_mono ps (show k + 1 ≤ ps.length by omega)
          simp only [lens] at this; omega
        have hno : ¬ OkJ ps := fun ⟨_, h2⟩ => by
          have h3 := tot_le ps (k + 1)
          rw [tot_succ] at h3
          have h4 := jtx_mono ps (show k + 1 ≤ ps.length by omega)
          omega
        go_wp2_with fail
        go_ret2
        exact ⟨rfl, Below.refl _ _⟩
    · have hkk : k = ps.length := by omega
      subst hkk
      by_cases hsz : (jtx ps ps.length).length ≤ 16000
      · have hsz1 : ¬ (16000 : Int) < ((jtx ps ps.length).length : Int) := by omega
        go_wp2_with (go_at_call 9; refine (l08Journal lo hi ao c ps hn hl _ HS.out hh).mono ?_; rintro e w1 ⟨rfl, hb1⟩)
        go_ret2
        exact ⟨fun _ => rfl, fun h => absurd ⟨HP.out, hsz⟩ h, hb1⟩
      · have hsz1 : (16000 : Int) < ((jtx ps ps.length).length : Int) := by omega
        go_wp2_with (go_at_call 9; refine (l08Journal lo hi ao c ps hn hl _ HS.out hh).mono ?_; rintro e w1 ⟨rfl, hb1⟩)
        go_ret2
        exact ⟨fun h => absurd h.2 hsz, fun _ => rfl, hb1⟩
end Go.Proofs.YtebikiimnnpgkaaDoor

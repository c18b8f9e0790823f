/- spec.l08Sheet, SheetText. -/
import Derived.Test.YtlpgaekkhlinhaaDoorShS
import Derived.StillTailTactics
namespace Go.Fl
open Go.RowKit
theorem app_semi (a b : List UInt8) : Value.string ((⟨a.toArray⟩ : ByteArray) ++ ⟨#[59]⟩ ++ ⟨b.toArray⟩) = .string ⟨(a ++ [59] ++ b).toArray⟩ := by
  have h1 : (⟨#[59]⟩ : ByteArray) = ⟨[(59 : UInt8)].toArray⟩ := rfl
  rw [h1, ByteArray.mk_append_mk, ByteArray.mk_append_mk]
end Go.Fl
namespace Go.Proofs.YtlpgaekkhlinhaaDoor
open Go.RowKit Go.Fl

theorem infoF : (Tryd.prog.info? 48).map (fun i => (i.zero, i.size, i.bytes)) = some (some (.float .f32 0), 1, 4) := by kernel_rfl

set_option maxHeartbeats 2000000 in
set_option maxRecDepth 100000 in
theorem l08Sheet (lo hi b : Nat) (a l : Int) (ao : Option Addr) (c : Nat) (ps : List Sp) (hok : okSh a l ps = true) (hsm : Sm ps) (w : World) (c0 : w.cell? ⟨b, 0, none⟩ = some (.int .i64 a)) (c1 : w.cell? ⟨b, 1, none⟩ = some (.int .i64 l)) (c2 : w.cell? ⟨b, 2, none⟩ = some (.slice ao ps.length c))
    (hs : SlP w lo hi ao ps) (hh : hi ≤ w.heap.size) :
    Calls Tryd.prog 11 #[.pointer (some ⟨b, 0, none⟩)] w fun e w' => e = .returned (.string ⟨(shT a l ps).toArray⟩) ∧ Below w.heap.size w w' := by
  obtain ⟨hab, hlen, hfin⟩ := okSh_parts hok
  have HS := Lib.hid hs
  have HF := Lib.hid hfin
  have HM := Lib.hid hsm
  have hbl : b < w.heap.size := World.block_lt_of_cell? w _ c0
  clear hs hok hsm hfin
  go_enter Tryd.func11, Tryd.ntmps11
  go_wp2_with fail
  go_loopw [3, 4] (fun out i wr => ∃ k bo cap : Nat, k ≤ ps.length ∧ i = .int .i64 k ∧ out = .slice (some ⟨bo, 0, none⟩) (3 * k) cap ∧ Hid (ORow wr 48 1 bo cap (3 * k) ((flatP (ps.take k)).map (Value.float .f32))) ∧ w.heap.size ≤ bo ∧ Hid (Below w.heap.size w wr)) (fun _ i _ => ps.length - (intOf i).toNat)
  case atStart => exact ⟨0, w.heap.size, 0, by omega, rfl, rfl, ORow.new w _ _, Nat.le_refl _, Below.alloc (Below.refl _ _) (Nat.le_refl _) _⟩
  case round =>
    obtain ⟨k, bo, cap, hk, rfl, rfl, HR, hbo, HW⟩ := hrel
    have hz := HW.out.size
    have d0 := (HW.out.cell (p := ⟨b, 0, none⟩) hbl).trans c0
    have d1 := (HW.out.cell (p := ⟨b, 1, none⟩) hbl).trans c1
    have d2 := (HW.out.cell (p := ⟨b, 2, none⟩) hbl).trans c2
    by_cases hlt : k < ps.length
    · obtain ⟨b1, o1, rfl, q0, q1, hc1⟩ := HS.out (by omega)
      obtain ⟨x, y, z, g1, g2, g3, f1, f2, f3⟩ := hc1 k hlt
      have e1 := (HW.out.cell (p := ⟨b1, o1 + k * 3, none⟩) (by show b1 < _; omega)).trans g1
      have e2 := (HW.out.cell (p := ⟨b1, o1 + k * 3 + 1, none⟩) (by show b1 < _; omega)).trans g2
      have e3 := (HW.out.cell (p := ⟨b1, o1 + k * 3 + 2, none⟩) (by show b1 < _; omega)).trans g3
      have hb1l : b1 < w.heap.size := by omega
      have hfk := finSp_parts (all_at HF.out hlt)
      have hx := f32_fin f1 hfk.1
      have hy := f32_fin f2 hfk.2.1
      have hzz := f32_fin f3 hfk.2.2
      have HFL := Lib.hid (flatP_take hlt)
      rw [← hx, ← hy, ← hzz] at HFL
      clear hc1 f1 f2 f3 hfk hx hy hzz
      have k0 : (0 : Int) ≤ (k : Int) := by omega
      have k1 : (k : Int) < (ps.length : Int) := by omega
      go_wp2_with fail
      go_region_held3 (fun w' => w'.cell? ⟨b, 2, none⟩ = some (.slice (some ⟨b1, o1, none⟩) ps.length c) ∧ w'.cell? ⟨b1, o1 + k * 3, none⟩ = some (.float .f32 x) ∧ w'.cell? ⟨b1, o1 + k * 3 + 1, none⟩ = some (.float .f32 y) ∧ w'.cell? ⟨b1, o1 + k * 3 + 2, none⟩ = some (.float .f32 z)) (first | go_keep | (exact ⟨(HB8.out.cell (p := ⟨b, 2, none⟩) hbl).trans c2, (HB8.out.cell (p := ⟨b1, o1 + k * 3, none⟩) hb1l).trans g1, (HB8.out.cell (p := ⟨b1, o1 + k * 3 + 1, none⟩) hb1l).trans g2, (HB8.out.cell (p := ⟨b1, o1 + k * 3 + 2, none⟩) hb1l).trans g3⟩) | (exact ⟨d2, e1, e2, e3⟩))
        (first | (refine step_appB rfl (.tmp 15) (.tmp 40) 43 rfl 48 (.float .f32 0) 4 Tryd.underlying43 infoF rfl (by decide) bo cap (3 * k) _ (by simp [Act.eval]) (HR.out.below (B := wr.heap.size) (Below.alloc (below_dr (Below.refl _ _) 1) (Nat.le_refl _) _) HR.out.lt) wr.heap.size 3 3 [.float .f32 x, .float .f32 y, .float .f32 z] (by simp [Act.eval]) rfl (fun j u h => news_new wr.drew #[_, _, _] _ j u h) (by simp [Value.oneCell']) (by decide) (by omega) w.heap.size hbo (by simp; omega) ?_; intro b8 cp8 w8 hr8 hb8 hg8; have HB8 := Lib.hid (Below.trans (below_dr (Below.alloc HW.out hz (.cells #[.float .f32 x, .float .f32 y, .float .f32 z] 48)) 1) (hg8.below hbo (by show w.heap.size ≤ (World.alloc _ _).heap.size; simp; omega))); clear hg8))
      go_wp2_with fail
      go_roundw
      case rel =>
        refine ⟨k + 1, b8, cp8, by omega, by go_num, by rw [Nat.mul_succ], ?_, hb8, HB8.out⟩
        rw [HFL.out, List.map_append, Nat.mul_succ]; exact hr8
      case measure => simp [intOf]; omega
    · have hkk : k = ps.length := by omega
      subst hkk
      have HRX := Lib.hid ((show ORow wr 48 1 bo cap (3 * ps.length) ((flatP ps).map (Value.float .f32)) by have := HR.out; rw [List.take_length] at this; exact this).nums HF.out HM.out)
      have hlo := HR.out.lt
      have HN : Hid (∀ w' : World, Below wr.heap.size wr w' → Calls Tryd.prog 21 #[.slice (some ⟨bo, 0, none⟩) (3 * ps.length) cap] w' fun e w'' => e = .returned (.string ⟨(numT (flatP ps)).toArray⟩) ∧ Below w'.heap.size w' w'') := Lib.hid fun w' hb => by
        have := l01NText bo (bo + 1) (some ⟨bo, 0, none⟩) cap (flatP ps) (by rw [flatP_len]; omega) w' (HRX.out.far (Far.below hb (by omega))) (by have := hb.size; omega)
        rw [flatP_len] at this
        exact this
      have HT : Hid (∀ (w' : World) (nb : Nat), w'.cell? ⟨nb, 0, none⟩ = some (.int .i64 a) → w'.cell? ⟨nb, 1, none⟩ = some (.int .i64 l) → Calls Tryd.prog 20 #[.slice (some ⟨nb, 0, none⟩) 2 2] w' fun e w'' => e = .returned (.string ⟨(intT [a, l]).toArray⟩) ∧ Below w'.heap.size w' w'') := Lib.hid fun w' nb g0 g1 =>
        l01Text nb (nb + 1) (some ⟨nb, 0, none⟩) 2 [a, l] (fun i hi => by
          have : i = 0 ∨ i = 1 := by simp at hi; omega
          rcases this with rfl | rfl
          · show 0 ≤ a ∧ a < 65003; omega
          · show 0 ≤ l ∧ l < 65003; omega) (by simp) w' (fun _ => ⟨nb, 0, rfl, Nat.le_refl _, Nat.lt_succ_self _, fun i hi => by
          have : i = 0 ∨ i = 1 := by simp at hi; omega
          rcases this with rfl | rfl
          · exact g0
          · exact g1⟩) (World.block_lt_of_cell? w' _ g0)
      have hln := numT_len (flatP ps)
      rw [flatP_len] at hln
      have hl2 := intT_len [a, l] (fun i hi => by
          have : i = 0 ∨ i = 1 := by simp at hi; omega
          rcases this with rfl | rfl
          · show 0 ≤ a ∧ a < 65003; omega
          · show 0 ≤ l ∧ l < 65003; omega)
      simp only [List.length_cons, List.length_nil] at hl2
      have s1 : ¬ (intT [a, l]).length + 1 > 9223372036854775807 := by omega
      have s2 : ¬ (intT [a, l]).length + 1 + (numT (flatP ps)).length > 9223372036854775807 := by omega
      clear hln hl2
      go_wp2_with fail
      go_region_held3 (fun w' => w'.cell? ⟨b, 0, none⟩ = some (.int .i64 a) ∧ w'.cell? ⟨b, 1, none⟩ = some (.int .i64 l)) (first | go_keep | (exact ⟨(HBW.out.cell (p := ⟨b, 0, none⟩) (by show b < _; omega)).trans d0, (HBW.out.cell (p := ⟨b, 1, none⟩) (by show b < _; omega)).trans d1⟩) | (exact ⟨d0, d1⟩))
        (first
        | (go_at_call 21; refine (HN.out _ HBW.out).mono ?_; rintro e w5 ⟨rfl, hb5⟩; have HBW := Lib.hid (HBW.out.trans (hb5.mono HBW.out.size)); clear hb5)
        | (go_at_call 20; refine (HT.out (wr.alloc (.cells #[.int .i64 a, .int .i64 l] 2)).drew wr.heap.size (news_new wr #[.int .i64 a, .int .i64 l] 2 0 _ rfl) (news_new wr #[.int .i64 a, .int .i64 l] 2 1 _ rfl)).mono ?_; rintro e w4 ⟨rfl, hb4⟩; have HBW := Lib.hid (show Below wr.heap.size wr w4 from Below.trans (below_dr (Below.alloc (Below.refl _ wr) (Nat.le_refl _) (.cells #[.int .i64 a, .int .i64 l] 2)) 1) (hb4.mono (by show wr.heap.size ≤ (World.alloc _ _).heap.size; simp))); clear hb4))
      go_wp2_with fail
      go_ret
      exact ⟨congrArg Ending.returned (app_semi _ _), HW.out.trans (HBW.out.mono hz)⟩

/-- the value of a sheet -/
def shV (a l : Int) (ao : Option Addr) (n c : Nat) : Value := .agg #[.int .i64 a, .int .i64 l, .slice ao n c]

set_option maxHeartbeats 2000000 in
theorem specSheetText (lo hi : Nat) (a l : Int) (ao : Option Addr) (c : Nat) (ps : List Sp) (hn : ps.length ≤ 1048576) (hsm : Sm ps) (w : World) (hs : SlP w lo hi ao ps) (hh : hi ≤ w.heap.size) :
    Calls Tryd.prog 5 #[shV a l ao ps.length c] w fun e w' => e = .returned (.tuple #[.string (if okSh a l ps then ⟨(shT a l ps).toArray⟩ else ⟨#[]⟩), .bool (okSh a l ps)]) ∧ Below w.heap.size w w' := by
  have HS := Lib.hid hs
  have HM := Lib.hid hsm
  clear hs hsm
  unfold shV
  cases hok : okSh a l ps
  · rw [if_neg (by decide)]
    go_enter Tryd.func5, Tryd.ntmps5
    go_wp2_with (go_at_call 10; refine (l04Is lo hi w.heap.size a l ao c ps hn _ (news_new w #[_, _, _] _ 0 _ rfl) (news_new w #[_, _, _] _ 1 _ rfl) (news_new w #[_, _, _] _ 2 _ rfl) (HS.out.far ((Far.refl _ _ w).alloc _ hh)) (by simp; omega)).mono ?_; rintro e w1 ⟨rfl, hb1⟩; rw [hok])
    go_ret2
    exact ⟨rfl, Below.trans (Below.alloc (Below.refl _ w) (Nat.le_refl _) _) (hb1.mono (by simp))⟩
  · rw [if_pos rfl]
    have HO := Lib.hid hok
    clear hok
    go_enter Tryd.func5, Tryd.ntmps5
    go_wp2_with (go_at_call 10; refine (l04Is lo hi w.heap.size a l ao c ps hn _ (news_new w #[_, _, _] _ 0 _ rfl) (news_new w #[_, _, _] _ 1 _ rfl) (news_new w #[_, _, _] _ 2 _ rfl) (HS.out.far ((Far.refl _ _ w).alloc _ hh)) (by simp; omega)).mono ?_; rintro e w1 ⟨rfl, hb1⟩; rw [HO.out])
    refine (l08Sheet lo hi w.heap.size a l ao c ps HO.out HM.out _ (keep_cell hb1 (news_new w #[_, _, _] _ 0 _ rfl)) (keep_cell hb1 (news_new w #[_, _, _] _ 1 _ rfl)) (keep_cell hb1 (news_new w #[_, _, _] _ 2 _ rfl)) ((HS.out.far ((Far.refl _ _ w).alloc _ hh)).far (Far.below hb1 (by simp; omega))) (by have := hb1.size; simp at this; omega)).mono ?_
    rintro e w2 ⟨rfl, hb2⟩
    go_wp2_with fail
    go_ret2
    exact ⟨rfl, Below.trans (Below.alloc (Below.refl _ w) (Nat.le_refl _) _) ((hb1.mono (by simp)).trans (hb2.mono (by have := hb1.size; simp at this; omega)))⟩
end Go.Proofs.YtlpgaekkhlinhaaDoor

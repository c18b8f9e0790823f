/- impl's taker: take, number, part. -/
import Derived.Test.YtjapidajammkbaaOStB
import Derived.Test.YtjapidajammkbaaShelf
namespace Go.Fl
open Go.RowKit
/-- the taker at block t -/
def TkAt (T : TypeId) (w : World) (t : Nat) (s : ByteArray) (a : Nat) (sh : Bool) : Prop := OwnC w t #[.string s, .int .i64 (a : Int), .bool sh] T
theorem grew_set {t : Nat} {w0 w : World} (h : Grew t w0 w) (i : Nat) (v : Value) : Grew t w0 (w.setCell ⟨t, i, none⟩ v) :=
  ⟨h.os, h.tape, h.output, by simpa using h.size, fun c hc hne => (Below.heap_setCell _ _ _ _ hne).trans (h.block c hc hne)⟩
theorem grew_refl (t : Nat) (w : World) : Grew t w w := ⟨rfl, rfl, rfl, Nat.le_refl _, fun _ _ _ => rfl⟩
theorem grew_below {t : Nat} {w0 w w1 : World} (h : Grew t w0 w) (hb : Below w.heap.size w w1) : Grew t w0 w1 :=
  ⟨hb.os.trans h.os, hb.tape.trans h.tape, hb.output.trans h.output, Nat.le_trans h.size hb.size, fun c hc hne => (hb.block c (Nat.lt_of_lt_of_le hc h.size)).trans (h.block c hc hne)⟩
theorem grew_drewN {t : Nat} {w0 w : World} (h : Grew t w0 w) (n : Nat) : Grew t w0 (w.drewN n) := ⟨h.os, h.tape, h.output, h.size, h.block⟩
theorem grew_trans {t : Nat} {w0 w1 w2 : World} (h : Grew t w0 w1) (k : Grew t w1 w2) : Grew t w0 w2 :=
  ⟨k.os.trans h.os, k.tape.trans h.tape, k.output.trans h.output, Nat.le_trans h.size k.size, fun c hc hne => (k.block c (Nat.lt_of_lt_of_le hc h.size) hne).trans (h.block c hc hne)⟩
theorem i64_or_nat (a b : Nat) (ha : a < 4294967296) (hb : b < 4294967296) : bits .or .i64 (a : Int) (b : Int) = ((a ||| b : Nat) : Int) := by
  have hx : a ||| b < 2 ^ 32 := Nat.or_lt_two_pow (by omega) (by omega)
  have h1 : ∀ x : Nat, x < 4294967296 → (BitVec.ofInt 64 (x : Int)).toNat = x := fun x h => by
    rw [BitVec.ofInt_natCast, BitVec.toNat_ofNat]; exact Nat.mod_eq_of_lt (by omega)
  show IntKind.i64.wrap ((BitVec.ofInt 64 (a : Int) ||| BitVec.ofInt 64 (b : Int)).toNat : Int) = _
  rw [BitVec.toNat_or, h1 a ha, h1 b hb, IntKind.wrap_i64]
  omega
theorem or_step (x y k : Nat) (hk : k < 4) (hy : y ≤ 255) (hx : x < 256 ^ k) : bits .or .i64 (x : Int) (wrap64 ((y : Int) * 2 ^ (8 * k))) = ((x + y * 256 ^ k : Nat) : Int) := by
  have key : ∀ P : Nat, (∃ i, P = 2 ^ i) → x < P → y * P < 4294967296 → bits .or .i64 (x : Int) ((y * P : Nat) : Int) = ((x + y * P : Nat) : Int) := fun P hP h1 h2 => by
    obtain ⟨i, rfl⟩ := hP
    have hxx : x < 4294967296 := by
      rcases Nat.eq_zero_or_pos y with h | h
      · have : k = 0 ∨ k = 1 ∨ k = 2 ∨ k = 3 := by omega
        rcases this with rfl | rfl | rfl | rfl <;> simp at hx <;> omega
      · have := Nat.le_mul_of_pos_left (2 ^ i) h; omega
    rw [i64_or_nat _ _ hxx h2, Nat.or_comm, Nat.mul_comm y, ← Nat.two_pow_add_eq_or_of_lt h1, Nat.add_comm]
  have hw : wrap64 ((y : Int) * 2 ^ (8 * k)) = ((y * 256 ^ k : Nat) : Int) := by
    have : k = 0 ∨ k = 1 ∨ k = 2 ∨ k = 3 := by omega
    rcases this with rfl | rfl | rfl | rfl <;> simp [wrap64] <;> omega
  rw [hw]
  refine key (256 ^ k) ⟨8 * k, ?_⟩ hx ?_
  · rw [Nat.pow_mul]
  · have : k = 0 ∨ k = 1 ∨ k = 2 ∨ k = 3 := by omega
    rcases this with rfl | rfl | rfl | rfl <;> simp <;> omega
theorem ext_cell (s : ByteArray) (a n j : Nat) (hj : j < n) (hf : a + n ≤ s.size) : (Lib.byteCells (s.extract a (a + n)).data.toList)[j]? = some (.int .u8 (bN s (a + j) : Nat)) := by
  have h1 : a + j < s.size := by omega
  have h2 : s.data.toList.length = s.size := by simp
  rw [Lib.byteCells, List.getElem?_map, Lib.extract_data, show a + n - a = n by omega, List.getElem?_take_of_lt hj, List.getElem?_drop, List.getElem?_eq_getElem (by omega), bN_lt h1]
  rfl
end Go.Fl
namespace Go.Proofs.Ytjapidajammkbaa
open Go.RowKit Go.Fl

set_option maxHeartbeats 1000000 in
theorem takeYes (t : Nat) (s : ByteArray) (a n : Nat) (sh : Bool) (hs : s.size ≤ 1048576) (hf : a + n ≤ s.size) (w : World) (h : TkAt 75 w t s a sh) :
    Calls Try.prog 35 #[.pointer (some ⟨t, 0, none⟩), .int .i64 n] w fun e w' => e = .returned (.string (s.extract a (a + n))) ∧ TkAt 75 w' t s (a + n) sh ∧ Grew t w w' := by
  have H : OwnC w t #[.string s, .int .i64 (a : Int), .bool sh] 75 := h
  have c0 := H.cell 0
  have c1 := H.cell 1
  have c2 := H.cell 2
  have f1 := H.free 1
  simp at c0 c1 c2
  have HH := Lib.hid (H.set 1 (.int .i64 ((a + n : Nat) : Int)))
  clear h H
  go_enter Try.func35, Try.ntmps35
  have k0 : ¬ (s.size : Int) - (a : Int) < (n : Int) := by omega
  have k1 : (0 : Int) ≤ (a : Int) := by omega
  have k2 : (a : Int) ≤ (a : Int) + (n : Int) := by omega
  have k3 : (a : Int) + (n : Int) ≤ (s.size : Int) := by omega
  have k4 : (a : Int) + (n : Int) - (n : Int) = (a : Int) := by omega
  go_wp2_with fail
  go_quiet (fail)
  go_wp2_with fail
  go_quiet (fail)
  go_wp2_with fail
  go_ret
  refine ⟨rfl, ?_, grew_drewN (grew_drewN (grew_set (grew_refl t w) _ _) _) _⟩
  have := HH.out
  rw [Int.natCast_add] at this
  have e : #[Value.string s, Value.int .i64 (a : Int), Value.bool sh].setIfInBounds 1 (Value.int .i64 ((a : Int) + (n : Int))) = #[Value.string s, Value.int .i64 ((a + n : Nat) : Int), Value.bool sh] := by
    rw [Int.natCast_add]; rfl
  rw [e] at this
  exact (this.drewN _).drewN _

theorem repeatZ (n : Nat) (h : n ≤ 1048576) (w : World) :
    Calls Try.prog 41 #[.string ⟨#[0]⟩, .int .i64 n] w fun e w' => e = .returned (.string ⟨(List.replicate n 0).toArray⟩) ∧ Below w.heap.size w w' := by
  refine (Try.strings_Repeat ⟨#[0]⟩ n w (by omega) (by show 1 * n ≤ _; omega)).mono ?_
  rintro e w' ⟨rfl, hb⟩
  refine ⟨?_, hb⟩
  have e1 : (⟨#[0]⟩ : ByteArray).data.toList = [0] := rfl
  have e2 : ∀ k : Nat, Lib.repeatL [(0 : UInt8)] k = List.replicate k 0 := fun k => by
    induction k with
    | zero => rfl
    | succ k ih => first | (rw [Lib.repeatL, ih]; rfl) | (simp [Lib.repeatL, ih, List.replicate_succ]) | (simp [Lib.repeatL])
  rw [e1, e2]

set_option maxHeartbeats 1000000 in
theorem takeNo (t : Nat) (s : ByteArray) (a n : Nat) (sh : Bool) (hs : s.size ≤ 1048576) (ha : a ≤ s.size) (hn : n ≤ 255) (hf : s.size < a + n) (w : World) (h : TkAt 75 w t s a sh) :
    Calls Try.prog 35 #[.pointer (some ⟨t, 0, none⟩), .int .i64 n] w fun e w' => e = .returned (.string ⟨(List.replicate n 0).toArray⟩) ∧ TkAt 75 w' t s a true ∧ Grew t w w' := by
  have H : OwnC w t #[.string s, .int .i64 (a : Int), .bool sh] 75 := h
  have c0 := H.cell 0
  have c1 := H.cell 1
  have c2 := H.cell 2
  have f2 := H.free 2
  have hlt := H.lt
  simp at c0 c1 c2
  have HH := Lib.hid (show OwnC (w.setCell ⟨t, 2, none⟩ (.bool true)) t #[.string s, .int .i64 (a : Int), .bool true] 75 from H.set 2 (.bool true))
  clear h H
  go_enter Try.func35, Try.ntmps35
  have k0 : (s.size : Int) - (a : Int) < (n : Int) := by omega
  go_wp2_with fail
  go_quiet (fail)
  go_wp2_with (go_at_call 41; refine (repeatZ n (by omega) _).mono ?_; rintro e w1 ⟨rfl, hb⟩)
  go_ret
  exact ⟨rfl, (HH.out.drewN _).below hb (by simpa using hlt), grew_below (grew_drewN (grew_set (grew_refl t w) _ _) _) (by simpa using hb)⟩

/-- what a number is read as -/
def numN (s : ByteArray) (a : Nat) : Nat → Nat
  | 0 => 0
  | k + 1 => numN s a k + bN s (a + k) * 256 ^ k
theorem numN_lt (s : ByteArray) (a : Nat) : ∀ k, numN s a k < 256 ^ k
  | 0 => by simp [numN]
  | k + 1 => by
    have h1 := numN_lt s a k
    have h2 := bN_le s (a + k)
    have h3 : bN s (a + k) * 256 ^ k ≤ 255 * 256 ^ k := Nat.mul_le_mul_right _ h2
    rw [numN, Nat.pow_succ]; omega
theorem numN_1 (s : ByteArray) (a : Nat) : numN s a 1 = bN s a := by simp [numN]
theorem numN_4 (s : ByteArray) (a : Nat) : numN s a 4 = w32 s a := by simp [numN, w32]; omega

set_option maxHeartbeats 1000000 in
theorem numYes (t : Nat) (s : ByteArray) (a n : Nat) (sh : Bool) (hs : s.size ≤ 1048576) (hn : n ≤ 4) (hf : a + n ≤ s.size) (w : World) (h : TkAt 75 w t s a sh) :
    Calls Try.prog 36 #[.pointer (some ⟨t, 0, none⟩), .int .i64 n] w fun e w' => e = .returned (.int .i64 (numN s a n : Nat)) ∧ TkAt 75 w' t s (a + n) sh ∧ Grew t w w' := by
  have H := Lib.hid h
  clear h
  have hcs : ∀ (W : World) (x : ByteArray), (convert 9 22 (.string x)).run Try.prog W = _ := fun W x => run_bytes_of_string (P := Try.prog) W 9 22 5 x Try.underlying9 Try.underlying22 Try.underlying5
  have hez : (s.extract a (a + n)).size = n := by rw [ByteArray.size_extract]; omega
  go_enter Try.func36, Try.ntmps36
  go_wp2_with (go_at_call 35; refine (takeYes t s a n sh hs hf _ H.out).mono ?_; rintro e w1 ⟨rfl, ht, hg⟩; have HT := Lib.hid ht; have HG := Lib.hid hg; clear ht hg)
  have hbc : ∀ (j : Nat), j < n → (w1.alloc (.cells (bytesRow (s.extract a (a + n)) (grownCap w1 n 0 5)) 5 ((bytesRow (s.extract a (a + n)) (grownCap w1 n 0 5)).size, (bytesRow (s.extract a (a + n)) (grownCap w1 n 0 5)).size + 1))).cell? ⟨w1.heap.size, j, none⟩ = some (.int .u8 (bN s (a + j) : Nat)) := fun j hj => by
    exact bytes_cell w1 _ _ _ _ j _ (ext_cell s a n j hj hf)
  have HBC := Lib.hid hbc
  clear hbc
  go_loop [5, 6, 7, 13] (fun x _ _ i => ∃ k : Nat, k ≤ n ∧ i = .int .i64 k ∧ x = .int .i64 (numN s a k : Nat)) (fun _ _ _ i => n - (intOf i).toNat)
  case atStart => exact ⟨0, by omega, rfl, rfl⟩
  case round =>
    obtain ⟨k, hk, rfl, rfl⟩ := hrel
    by_cases hlt : k < n
    · have c1 := HBC.out k hlt
      have hb := bN_le s (a + k)
      have hm := numN_lt s a k
      have k0 : (0 : Int) ≤ (k : Int) := by omega
      have k1 : (k : Int) < (n : Int) := by omega
      have k2 : (0 : Int) ≤ 8 * (k : Int) := by omega
      have k3 : 8 * (k : Int) ≤ 64 := by omega
      have hsu : numN s a (k + 1) = numN s a k + bN s (a + k) * 256 ^ k := rfl
      generalize hyy : bN s (a + k) = y at *
      generalize hxx : numN s a k = x at *
      have HSU := Lib.hid hsu
      clear hsu hyy hxx
      go_wp2_with fail
      exact ⟨⟨k + 1, by omega, by go_num, by rw [or_step x y k (by omega) hb hm, HSU.out]⟩, by simp [intOf]; omega⟩
    · have hkk : k = n := by omega
      subst hkk
      go_wp2_with fail
      go_ret
      exact ⟨rfl, (HT.out.alloc _).drewN 1, grew_drewN (grew_below HG.out (Below.alloc (Below.refl _ _) (Nat.le_refl _) _)) 1⟩

set_option maxHeartbeats 1000000 in
theorem numNo (t : Nat) (s : ByteArray) (a n : Nat) (sh : Bool) (hs : s.size ≤ 1048576) (ha : a ≤ s.size) (hn : n ≤ 4) (hf : s.size < a + n) (w : World) (h : TkAt 75 w t s a sh) :
    Calls Try.prog 36 #[.pointer (some ⟨t, 0, none⟩), .int .i64 n] w fun e w' => e = .returned (.int .i64 0) ∧ TkAt 75 w' t s a true ∧ Grew t w w' := by
  have H := Lib.hid h
  clear h
  have hcs : ∀ (W : World) (x : ByteArray), (convert 9 22 (.string x)).run Try.prog W = _ := fun W x => run_bytes_of_string (P := Try.prog) W 9 22 5 x Try.underlying9 Try.underlying22 Try.underlying5
  obtain ⟨z, hz⟩ : ∃ z : ByteArray, z = ⟨(List.replicate n 0).toArray⟩ := ⟨_, rfl⟩
  have hez : z.size = n := by rw [hz]; show (List.replicate n (0 : UInt8)).toArray.size = n; simp
  have hzb : ∀ j, j < n → (Lib.byteCells z.data.toList)[j]? = some (.int .u8 0) := fun j hj => by
    rw [hz, Lib.byteCells, List.getElem?_map]
    show Option.map _ (List.replicate n (0 : UInt8))[j]? = _
    rw [List.getElem?_replicate, if_pos hj]
    rfl
  have HZ := Lib.hid hz
  have HZB := Lib.hid hzb
  clear hz hzb
  go_enter Try.func36, Try.ntmps36
  go_wp2_with (go_at_call 35; refine (takeNo t s a n sh hs ha (by omega) hf _ H.out).mono ?_; rintro e w1 ⟨rfl, ht, hg⟩; rw [← HZ.out]; have HT := Lib.hid ht; have HG := Lib.hid hg; clear ht hg)
  have hbc : ∀ (j : Nat), j < n → (w1.alloc (.cells (bytesRow z (grownCap w1 n 0 5)) 5 ((bytesRow z (grownCap w1 n 0 5)).size, (bytesRow z (grownCap w1 n 0 5)).size + 1))).cell? ⟨w1.heap.size, j, none⟩ = some (.int .u8 0) := fun j hj => bytes_cell w1 _ _ _ _ j _ (HZB.out j hj)
  have HBC := Lib.hid hbc
  clear hbc
  go_loop [5, 6, 7, 13] (fun x _ _ i => ∃ k : Nat, k ≤ n ∧ i = .int .i64 k ∧ x = .int .i64 0) (fun _ _ _ i => n - (intOf i).toNat)
  case atStart => exact ⟨0, by omega, rfl, rfl⟩
  case round =>
    obtain ⟨k, hk, rfl, rfl⟩ := hrel
    by_cases hlt : k < n
    · have c1 := HBC.out k hlt
      have k0 : (0 : Int) ≤ (k : Int) := by omega
      have k1 : (k : Int) < (n : Int) := by omega
      have k2 : (0 : Int) ≤ 8 * (k : Int) := by omega
      have k3 : 8 * (k : Int) ≤ 64 := by omega
      have hor : bits .or .i64 0 0 = 0 := by decide
      go_wp2_with fail
      exact ⟨⟨k + 1, by omega, by go_num, by first | rfl | (simp [wrap64, hor]; done) | trace_state⟩, by simp [intOf]; omega⟩
    · have hkk : k = n := by omega
      subst hkk
      go_wp2_with fail
      go_ret
      exact ⟨rfl, (HT.out.alloc _).drewN 1, grew_drewN (grew_below HG.out (Below.alloc (Below.refl _ _) (Nat.le_refl _) _)) 1⟩

theorem partYes (t : Nat) (s : ByteArray) (a : Nat) (sh : Bool) (hs : s.size ≤ 1048576) (hf : a + 4 ≤ s.size) (w : World) (h : TkAt 75 w t s a sh) :
    Calls Try.prog 37 #[.pointer (some ⟨t, 0, none⟩)] w fun e w' => e = .returned (.float .f32 (w32 s a)) ∧ TkAt 75 w' t s (a + 4) sh ∧ Grew t w w' := by
  have H := Lib.hid h
  clear h
  have hfb := run_frombits (w32 s a)
  have hlt := w32_lt s a
  have hn4 := numN_4 s a
  generalize w32 s a = x at *
  go_enter Try.func37, Try.ntmps37
  go_wp2_with (go_at_call 36; refine (numYes t s a 4 sh hs (by decide) hf _ H.out).mono ?_; rintro e w1 ⟨rfl, ht, hg⟩; rw [hn4]; have HT := Lib.hid ht; have HG := Lib.hid hg; clear ht hg)
  go_ret
  exact ⟨rfl, HT.out, HG.out⟩
theorem partNo (t : Nat) (s : ByteArray) (a : Nat) (sh : Bool) (hs : s.size ≤ 1048576) (ha : a ≤ s.size) (hf : s.size < a + 4) (w : World) (h : TkAt 75 w t s a sh) :
    Calls Try.prog 37 #[.pointer (some ⟨t, 0, none⟩)] w fun e w' => e = .returned (.float .f32 0) ∧ TkAt 75 w' t s a true ∧ Grew t w w' := by
  have H := Lib.hid h
  clear h
  have hfb : ∀ w : World, (callFunc 42 #[.int .u32 0]).run Try.prog w = .ok (.value (.float .f32 0)) w := fun w => run_frombits 0 w
  go_enter Try.func37, Try.ntmps37
  go_wp2_with (go_at_call 36; refine (numNo t s a 4 sh hs ha (by decide) hf _ H.out).mono ?_; rintro e w1 ⟨rfl, ht, hg⟩; have HT := Lib.hid ht; have HG := Lib.hid hg; clear ht hg)
  go_ret
  exact ⟨rfl, HT.out, HG.out⟩
end Go.Proofs.Ytjapidajammkbaa

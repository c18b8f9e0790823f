/- Contracts: the marks that the law writes into a list of strings, and reads again. -/
import Derived.Test.YtkkijjgdjaedeaaDoorChk
import Derived.Lib.Builder
import Derived.Laws.Concat
import Derived.Deep.RegionHeld3
namespace Go.Fl
open Go.RowKit
/-- the mark of a number -/
def mtx (n : Int) : ByteArray := ⟨(109 :: Lib.itoa n).toArray⟩
/-- a slice at ao is the walk's own and reads as the strings xs -/
def OwnS (w : World) (lo hi : Nat) (ao : Option Addr) (xs : List ByteArray) : Prop :=
  0 < xs.length → ∃ b, ao = some ⟨b, 0, none⟩ ∧ lo ≤ b ∧ b < hi ∧ Room w b xs.length ∧ ∀ i, i < xs.length → w.cell? ⟨b, i, none⟩ = some (.string (sAt xs i))
theorem OwnS.reads {w : World} {lo hi : Nat} {ao : Option Addr} {xs : List ByteArray} (h : OwnS w lo hi ao xs) : SlT w lo hi ao xs := fun hp => by
  obtain ⟨b, rfl, h1, h2, _, hc⟩ := h hp
  exact ⟨b, 0, rfl, h1, h2, fun i hi => by rw [Nat.zero_add]; exact hc i hi⟩
theorem OwnS.far {w w' : World} {lo hi : Nat} {ao : Option Addr} {xs : List ByteArray} (h : OwnS w lo hi ao xs) (hf : Far lo hi w w') : OwnS w' lo hi ao xs := fun hp => by
  obtain ⟨b, rfl, h1, h2, hr, hc⟩ := h hp
  exact ⟨b, rfl, h1, h2, hr.far hf h1 h2, fun i hi => (hf.cell h1 h2).trans (hc i hi)⟩
/-- the slice holds the marks 1, 2, .. -/
def MarkT (w : World) (lo hi : Nat) (ao : Option Addr) (n : Nat) : Prop :=
  0 < n → ∃ b, ao = some ⟨b, 0, none⟩ ∧ lo ≤ b ∧ b < hi ∧ ∀ i : Nat, i < n → w.cell? ⟨b, i, none⟩ = some (.string (mtx (1 + (i : Int))))
theorem MarkT.far {w w' : World} {lo hi : Nat} {ao : Option Addr} {n : Nat} (h : MarkT w lo hi ao n) (hf : Far lo hi w w') : MarkT w' lo hi ao n := fun hp => by
  obtain ⟨b, rfl, h1, h2, hc⟩ := h hp
  exact ⟨b, rfl, h1, h2, fun i hi => (hf.cell h1 h2).trans (hc i hi)⟩
/-- of the old blocks those from lo up to hi alone turned -/
structure GrewIn (lo hi : Nat) (w w' : World) : Prop where
  os : w'.os = w.os
  tape : w'.tape = w.tape
  output : w'.output = w.output
  size : w.heap.size ≤ w'.heap.size
  block : ∀ c, c < w.heap.size → (c < lo ∨ hi ≤ c) → w'.heap[c]? = w.heap[c]?
theorem GrewIn.refl (lo hi : Nat) (w : World) : GrewIn lo hi w w := ⟨rfl, rfl, rfl, Nat.le_refl _, fun _ _ _ => rfl⟩
theorem GrewIn.on {lo hi : Nat} {a w w' : World} (h : GrewIn lo hi a w) (hb : Below w.heap.size w w') : GrewIn lo hi a w' :=
  ⟨hb.os.trans h.os, hb.tape.trans h.tape, hb.output.trans h.output, Nat.le_trans h.size hb.size, fun c hc hd => (hb.block c (Nat.lt_of_lt_of_le hc h.size)).trans (h.block c hc hd)⟩
theorem GrewIn.set {lo hi : Nat} {a w : World} (h : GrewIn lo hi a w) {b : Nat} (h1 : lo ≤ b) (h2 : b < hi) (i : Nat) (v : Value) : GrewIn lo hi a (w.setCell ⟨b, i, none⟩ v) :=
  ⟨h.os, h.tape, h.output, by simpa using h.size, fun c hc hd => (Below.heap_setCell _ _ _ _ (by rintro rfl; omega)).trans (h.block c hc hd)⟩
theorem GrewIn.below {lo hi B : Nat} {w w' : World} (h : GrewIn lo hi w w') (h1 : B ≤ lo) (h2 : B ≤ w.heap.size) : Below B w w' := ⟨h.os, h.tape, h.output, h.size, fun c hc => h.block c (by omega) (.inl (by omega))⟩
theorem GrewIn.far {lo hi lo' hi' : Nat} {w w' : World} (h : GrewIn lo hi w w') (h1 : hi' ≤ w.heap.size) (h2 : hi' ≤ lo ∨ hi ≤ lo') : Far lo' hi' w w' := fun c a b => h.block c (by omega) (by omega)
end Go.Fl
namespace Go.Proofs.YtkkijjgdjaedeaaDoor
open Go.RowKit Go.Fl

set_option maxHeartbeats 1000000 in
theorem markText (n : Nat) (h0 : 1 ≤ n) (h1 : n ≤ 1000000000) (w : World) :
    Calls Tryd.prog 11 #[.int .i64 n] w fun e w' => e = .returned (.string (mtx n)) ∧ Below w.heap.size w w' := by
  have hn0 : ¬ (n : Int) ≤ 0 := by omega
  have hdl := nDigits_le_self n
  go_enter Tryd.func11, Tryd.ntmps11
  go_wp2_with fail
  go_loopw [0, 3] (fun r o wr => ∃ (out : List UInt8) (rest : Nat), DecI n out rest ∧ rest ≤ n ∧ r = .int .i64 rest ∧ o = .string ⟨out.toArray⟩ ∧ Hid (Below w.heap.size w wr)) (fun r _ _ => (intOf r).toNat)
  case atStart => exact ⟨[], n, .inl ⟨rfl, rfl⟩, Nat.le_refl _, rfl, rfl, Below.refl _ _⟩
  case round =>
    obtain ⟨out, rest, hD, hrn, rfl, rfl, HW⟩ := hrel
    have hlen := hD.len
    have hz := HW.out.size
    by_cases hr : rest = 0
    · subst hr
      have hne : out ≠ [] := by
        rintro rfl
        rcases hD with ⟨_, h⟩ | ⟨h, _⟩
        · omega
        · exact h rfl
      have hs : ¬ 1 + out.length > 9223372036854775807 := by omega
      go_wp2_with fail
      go_ret
      refine ⟨?_, HW.out⟩
      rw [mtx, ← hD.done hne]
      exact congrArg (fun x => Ending.returned (Value.string x)) (ByteArray.mk_append_mk [109] out)
    · have r0 : ¬ (rest : Int) ≤ 0 := by omega
      have r1 : (0 : Int) < (rest : Int) := by omega
      have r2 : 0 ≤ (rest : Int) % 10 ∧ (rest : Int) % 10 ≤ 9 := by omega
      have r3 : (rest : Int) ≤ 1000000000 := by omega
      have hs : ¬ 1 + out.length > 9223372036854775807 := by omega
      have hcv : (convert 42 9 (.slice (some ⟨wr.heap.size, 0, none⟩) 1 1)).run Tryd.prog (wr.alloc (.cells #[.int .u8 (48 + (rest : Int) % 10)] 5)) = .ok (.string ⟨[UInt8.ofNat (48 + rest % 10)].toArray⟩) (wr.alloc (.cells #[.int .u8 (48 + (rest : Int) % 10)] 5)) :=
        run_convert_bytes_back _ _ _ 5 ⟨wr.heap.size, 0, none⟩ 1 [UInt8.ofNat (48 + rest % 10)] Tryd.underlying42 Tryd.underlying5 Tryd.underlying9 (fun j hj => by
          have hj0 : j = 0 := by simpa using hj
          subst hj0
          have : (UInt8.ofNat (48 + rest % 10)).toNat = 48 + rest % 10 := by
            rw [UInt8.toNat_ofNat']; omega
          have hc : (wr.alloc (.cells #[.int .u8 (48 + (rest : Int) % 10)] 5)).cell? ⟨wr.heap.size, 0, none⟩ = some (.int .u8 (48 + (rest : Int) % 10)) := by
            rw [Lib.cell_of_heap (heap_alloc_new wr _)]; rfl
          have ha : (⟨wr.heap.size, 0, none⟩ : Addr).add 0 = ⟨wr.heap.size, 0, none⟩ := rfl
          rw [ha, hc]
          simp only [List.getElem_cons_zero, this]
          congr 2)
      go_wp2_with fail
      refine ⟨⟨UInt8.ofNat (48 + rest % 10) :: out, rest / 10, hD.step (.inr hr), by omega, by go_num, ?_, Below.alloc HW.out hz _⟩, by simp [intOf]; omega⟩
      have hx : (48 : UInt8) + UInt8.ofNat (rest % 10) = UInt8.ofNat (48 + rest % 10) := by rw [UInt8.ofNat_add]; rfl
      rw [hx]
      exact congrArg Value.string (ByteArray.mk_append_mk [UInt8.ofNat (48 + rest % 10)] out)
theorem markTextI (x : Int) (h0 : 1 ≤ x) (h1 : x ≤ 1000000000) (w : World) :
    Calls Tryd.prog 11 #[.int .i64 x] w fun e w' => e = .returned (.string (mtx x)) ∧ Below w.heap.size w w' := by
  obtain ⟨m, rfl⟩ := Int.eq_ofNat_of_zero_le (show 0 ≤ x by omega)
  exact markText m (by omega) (by omega) w

set_option maxHeartbeats 1000000 in
theorem markStringS (lo hi : Nat) (ao : Option Addr) (c : Nat) (xs : List ByteArray) (hn : xs.length ≤ 1048576) (w : World) (h : OwnS w lo hi ao xs) (hh : hi ≤ w.heap.size) :
    Calls Tryd.prog 7 #[.slice ao xs.length c, .int .i64 1] w fun e w' => e = .returned (.int .i64 (1 + (xs.length : Int))) ∧ MarkT w' lo hi ao xs.length ∧ GrewIn lo hi w w' := by
  have HO := Lib.hid h
  clear h
  go_enter Tryd.func7, Tryd.ntmps7
  go_wp2_with fail
  go_loopw [1, 5] (fun x i wr => ∃ k : Nat, k ≤ xs.length ∧ i = .int .i64 k ∧ x = .int .i64 (1 + (k : Int)) ∧ Hid (GrewIn lo hi w wr) ∧ Hid (0 < xs.length → ∃ b, ao = some ⟨b, 0, none⟩ ∧ lo ≤ b ∧ b < hi ∧ Room wr b xs.length ∧ ∀ i : Nat, i < k → wr.cell? ⟨b, i, none⟩ = some (.string (mtx (1 + (i : Int)))))) (fun _ i _ => xs.length - (intOf i).toNat)
  case atStart =>
    refine ⟨0, by omega, rfl, rfl, GrewIn.refl _ _ _, fun hp => ?_⟩
    obtain ⟨b, h1, h2, h3, h4, _⟩ := HO.out hp
    exact ⟨b, h1, h2, h3, h4, fun i hi => absurd hi (Nat.not_lt_zero _)⟩
  case round =>
    obtain ⟨k, hk, rfl, rfl, HG, HR⟩ := hrel
    by_cases hlt : k < xs.length
    · obtain ⟨b, rfl, h2, h3, h4, h5⟩ := HR.out (by omega)
      have k0 : (0 : Int) ≤ (k : Int) := by omega
      have k1 : (k : Int) < (xs.length : Int) := by omega
      have hblt := h4.lt
      have H4 := Lib.hid h4
      have H5 := Lib.hid h5
      clear h4 h5 HR
      go_wp2_with (go_at_call 11; refine (markTextI _ (by omega) (by omega) _).mono ?_; rintro e w1 ⟨rfl, hb1⟩; have R1 := Lib.hid (H4.out.far (Far.below hb1 (Nat.le_refl _)) (Nat.zero_le _) hblt); obtain ⟨v1, hv1⟩ := R1.out.cell hlt; have hf1 := R1.out.free k; have HB1 := Lib.hid hb1; clear hb1)
      have hb1 := HB1.out
      have hz1 := hb1.size
      have hzg := HG.out.size
      refine ⟨⟨k + 1, by omega, by go_num, by go_num, (HG.out.on hb1).set h2 h3 k _, fun _ => ⟨b, rfl, h2, h3, R1.out.set b k _, fun i hi => ?_⟩⟩, by simp [intOf]; omega⟩
      obtain ⟨cs, T, ho, hcs⟩ := R1.out
      rw [(ho.set k _).cell]
      by_cases hik : i = k
      · subst hik
        rw [Array.getElem?_setIfInBounds_self]
        simp [show i < cs.size by omega]
      · rw [Array.getElem?_setIfInBounds_ne (fun e => hik e.symm), ← ho.cell, hb1.cell (p := ⟨b, i, none⟩) hblt]
        exact H5.out i (by omega)
    · have hkk : k = xs.length := by omega
      subst hkk
      go_wp2_with fail
      go_ret
      refine ⟨rfl, fun hp => ?_, HG.out⟩
      obtain ⟨b, h1, h2, h3, _, h5⟩ := HR.out hp
      exact ⟨b, h1, h2, h3, h5⟩

set_option maxHeartbeats 1000000 in
theorem heldStringS (lo hi : Nat) (ao : Option Addr) (n c : Nat) (hn : n ≤ 1048576) (w : World) (h : MarkT w lo hi ao n) (hh : hi ≤ w.heap.size) :
    Calls Tryd.prog 8 #[.slice ao n c, .int .i64 1] w fun e w' => e = .returned (.int .i64 (1 + (n : Int))) ∧ Below w.heap.size w w' := by
  have HO := Lib.hid h
  clear h
  go_enter Tryd.func8, Tryd.ntmps8
  go_wp2_with fail
  go_loopw [1, 5] (fun x i wr => ∃ k : Nat, k ≤ n ∧ i = .int .i64 k ∧ x = .int .i64 (1 + (k : Int)) ∧ Hid (Below w.heap.size w wr)) (fun _ i _ => n - (intOf i).toNat)
  case atStart => exact ⟨0, by omega, rfl, rfl, Below.refl _ _⟩
  case round =>
    obtain ⟨k, hk, rfl, rfl, HW⟩ := hrel
    have hz := HW.out.size
    by_cases hlt : k < n
    · obtain ⟨b, rfl, h2, h3, h5⟩ := HO.out.far (Far.below HW.out hh) (by omega)
      have k0 : (0 : Int) ≤ (k : Int) := by omega
      have k1 : (k : Int) < (n : Int) := by omega
      have c1 := h5 k hlt
      clear h5
      go_wp2_with fail
      go_region_held3 (fun w' => w'.cell? ⟨b, k, none⟩ = some (.string (mtx (1 + (k : Int))))) (first | go_keep | (exact keep_cell (by assumption) (by assumption)))
        ((go_at_call 11; refine (markTextI _ (by omega) (by omega) _).mono ?_; rintro e w3 ⟨rfl, hb3⟩))
      have HW3 := HW.out.drew.trans (hb3.mono HW.out.size)
      clear hb3 HW
      go_wp2_with fail
      go_roundw
      case rel => exact ⟨k + 1, by omega, by go_num, by go_num, HW3⟩
      case measure => simp [intOf]; omega
    · have hkk : k = n := by omega
      subst hkk
      go_wp2_with fail
      go_ret
      exact ⟨rfl, HW.out⟩
end Go.Proofs.YtkkijjgdjaedeaaDoor

/- impl.pieces, ReadNumbers: a text of numbers read, the program's. -/
import Derived.Test.YtlpgaekkhlinhaaGreatDoorHexB
import Derived.Test.YtlpgaekkhlinhaaGreatDoorTxtB
namespace Go.Fl
open Go.RowKit
/-- what a reading loop has so far: raw numbers; of a text that is one, its own -/
structure Sofar {α : Type} (f : α → List UInt8) (P : α → Prop) (B : α → Prop) (s : List UInt8) (k : Nat) (ms : List α) : Prop where
  len : ms.length = k
  few : k ≤ 256
  lt : ∀ m ∈ ms, B m
  eq : ∀ xs, Reads f P s xs → ms = xs.take k
theorem Sofar.zero {α : Type} (f : α → List UInt8) (P : α → Prop) (B : α → Prop) (s : List UInt8) : Sofar f P B s 0 [] := ⟨rfl, by decide, fun x hx => (List.not_mem_nil hx).elim, fun _ _ => rfl⟩
theorem Sofar.succ {α : Type} {f : α → List UInt8} {P : α → Prop} {B : α → Prop} {m : Nat} (T : Texts f P m) {s : ByteArray} {k : Nat} {ms : List α} (h : Sofar f P B s.data.toList k ms) (hn : s.data.toList ≠ noneL) (hk : k < (pieces s 44).length) (h256 : k ≠ 256) {x : α} (hx : B x) (hu : ∀ n, P n → (sAt (pieces s 44) k).data.toList = f n → x = n) : Sofar f P B s.data.toList (k + 1) (ms ++ [x]) := by
  refine ⟨by simp [h.len], by have := h.few; omega, fun y hy => ?_, fun xs hr => ?_⟩
  · rcases List.mem_append.1 hy with hy | hy
    · exact h.lt y hy
    · obtain rfl : y = x := by simpa using hy
      exact hx
  · have hne : xs ≠ [] := fun e => hn ((hr.none T).2 e)
    have hc := hr.cut T hne
    have hk' : k < xs.length := by
      have := pieces_cut_len s 44
      rw [hc, List.length_map] at this
      omega
    rw [List.take_succ_eq_append_getElem hk', ← h.eq xs hr]
    congr 2
    refine hu _ (hr.2.1 _ (List.getElem_mem hk')) ?_
    rw [piece_data s 44 hk]
    simp only [hc, List.getElem_map]
theorem Sofar.all {α : Type} {f : α → List UInt8} {P : α → Prop} {B : α → Prop} {m : Nat} (T : Texts f P m) {s : ByteArray} {ms : List α} (h : Sofar f P B s.data.toList (pieces s 44).length ms) (hn : s.data.toList ≠ noneL) (xs : List α) (hr : Reads f P s.data.toList xs) : ms = xs := by
  have hne : xs ≠ [] := fun e => hn ((hr.none T).2 e)
  have hc := hr.cut T hne
  have hl : (pieces s 44).length = xs.length := by
    have := pieces_cut_len s 44
    rw [hc, List.length_map] at this
    exact this
  have := h.eq xs hr
  rwa [hl, List.take_length] at this
def Lt32 (x : Nat) : Prop := x < 4294967296
/-- a row of raw numbers reads as the numbers with one not-a-number -/
theorem ORow.raw {w : World} {e : TypeId} {b cap n : Nat} {ms : List Nat} (h : ORow w e 1 b cap n (ms.map (Value.float .f32))) (hs : ∀ m ∈ ms, Lt32 m) : SlX w b (b + 1) (some ⟨b, 0, none⟩) (ms.map (can .f32)) := fun _ =>
  ⟨b, 0, rfl, Nat.le_refl _, Nat.lt_succ_self _, fun i hi => by
    have hl := h.1
    rw [List.length_map] at hl
    rw [List.length_map] at hi
    refine ⟨ms[i], ?_, hs _ (List.getElem_mem hi), ?_⟩
    · rw [Nat.zero_add, h.cell i (by omega)]
      simp [hi]
    · simp [nAt, hi]⟩
theorem map_can_self {xs : List Nat} (h : ∀ x ∈ xs, Own1 x) : xs.map (can .f32) = xs := by
  induction xs with
  | nil => rfl
  | cons x xs ih => rw [List.map_cons, (h x (by simp)).2, ih fun y hy => h y (by simp [hy])]
theorem reads_of_text {s : List UInt8} {ms : List Nat} (hl : ms.length ≤ 256) (hs : ∀ m ∈ ms, Lt32 m) (h : numT (ms.map (can .f32)) = s) : Reads hex1 Own1 s (ms.map (can .f32)) := by
  refine ⟨by simpa using hl, fun x hx => ?_, h.symm⟩
  obtain ⟨m, hm, rfl⟩ := List.mem_map.1 hx
  exact ⟨can_lt m (hs m hm), can_idem m⟩
end Go.Fl
namespace Go.Proofs.YtlpgaekkhlinhaaGreatDoor
open Go.RowKit Go.Fl

/-- the library's greatest length can be read -/
def Mx (w : World) : Prop := ∃ m, w.cell? ⟨0, 0, none⟩ = some (.int .i64 m)
theorem Mx.on {w w' : World} (h : Mx w) (hb : Below w.heap.size w w') : Mx w' := by
  obtain ⟨m, h⟩ := h
  exact ⟨m, keep_cell hb h⟩
theorem pieces_none (s : ByteArray) (h : s.data.toList = noneL) (w : World) : Calls Tryz.prog 48 #[.string s] w fun e w' => e = .returned (.slice none 0 0) ∧ w' = w := by
  have hb : (s.toList == [110, 111, 110, 101]) = true := by rw [ByteArray.toList_eq, h]; rfl
  go_enter Tryz.func48, Tryz.ntmps48
  go_wp2_with fail
  go_ret
  exact ⟨rfl, rfl⟩
theorem pieces_some (s : ByteArray) (hs : s.size ≤ 1048576) (h : s.data.toList ≠ noneL) (w : World) (hm : Mx w) : Calls Tryz.prog 48 #[.string s] w fun e w' => e = .returned (.slice (some ⟨w.heap.size, 0, none⟩) (pieces s 44).length (pieces s 44).length) ∧
    SlT w' w.heap.size (w.heap.size + 1) (some ⟨w.heap.size, 0, none⟩) (pieces s 44) ∧ w'.heap.size = w.heap.size + 1 ∧ Below w.heap.size w w' := by
  have hb : (s.toList == [110, 111, 110, 101]) = false := by
    rw [ByteArray.toList_eq]
    exact beq_eq_false_iff_ne.2 h
  obtain ⟨m, hm⟩ := hm
  go_enter Tryz.func48, Tryz.ntmps48
  go_wp2_with (go_at_call 40; refine (Tryz.strings_Split s ⟨#[44]⟩ m w (by omega) hm (by decide)).mono ?_; rintro e w1 ⟨rfl, rfl⟩)
  go_ret
  refine ⟨by rw [pieces_len]; rfl, fun _ => ⟨w.heap.size, 0, rfl, Nat.le_refl _, Nat.lt_succ_self _, fun i hi => ?_⟩, by simp, Below.alloc (Below.refl _ w) (Nat.le_refl _) _⟩
  rw [Lib.cell_of_heap (heap_alloc_new w _), splitB_pieces, Nat.zero_add]
  simp [sAt, hi]

set_option maxHeartbeats 4000000 in
set_option maxRecDepth 100000 in
theorem readNumbers (s : ByteArray) (hs : s.size ≤ 1048576) (w : World) (hm : Mx w) (he : Er w) (ht : Tz w) :
    Calls Tryz.prog 24 #[.string s] w fun e w' => (∀ xs, Reads hex1 Own1 s.data.toList xs → ∃ b cap, e = .returned (.tuple #[.slice (some ⟨b, 0, none⟩) xs.length cap, .bool true]) ∧ ORow w' 61 1 b cap xs.length (xs.map (Value.float .f32)) ∧ w.heap.size ≤ b) ∧
      ((∀ xs, ¬ Reads hex1 Own1 s.data.toList xs) → e = .returned (.tuple #[.slice none 0 0, .bool false])) ∧ Below w.heap.size w w' := by
  have HM := Lib.hid hm
  have HE := Lib.hid he
  have HT := Lib.hid ht
  clear hm he ht
  have HB0 := Lib.hid (show Below w.heap.size w (w.alloc (.cells #[] 61)) from Below.alloc (Below.refl _ w) (Nat.le_refl _) _)
  have HO0 := Lib.hid (ORow.new w 61 1)
  by_cases hnone : s.data.toList = noneL
  · have HNT := Lib.hid (numbersText w.heap.size (w.heap.size + 1) (some ⟨w.heap.size, 0, none⟩) 0 [] (by simp) (w.alloc (.cells #[] 61)) (fun h => absurd h (Nat.not_lt_zero _)) (by simp) (HT.out.on HB0.out))
    have hq : ([110, 111, 110, 101] == s.toList) = true := by rw [ByteArray.toList_eq, hnone]; rfl
    have hq2 : ((numT []) == s.toList) = true := hq
    have HN := Lib.hid hnone
    clear hnone
    go_enter Tryz.func24, Tryz.ntmps24
    go_wp2_with fail
    refine (pieces_none s HN.out _).mono ?_
    rintro e w1 ⟨rfl, hw⟩
    rw [hw]
    clear hw
    go_wp2_with fail
    refine wp_loop_rounds 1 ?_
    rw [rounds_succ]
    go_wp2_with fail
    refine HNT.out.mono ?_
    rintro e w2 ⟨rfl, hb2⟩
    have HB2 := Lib.hid (HB0.out.trans (hb2.mono (by simp)))
    have HO2 := Lib.hid (HO0.out.below hb2 (by simp))
    clear hb2
    go_wp2_with fail
    go_ret2
    refine ⟨fun xs h => ?_, fun h => absurd (Reads.nil HN.out) (h []), HB2.out⟩
    obtain rfl : xs = [] := (h.none texts1).1 HN.out
    exact ⟨_, _, rfl, HO2.out, Nat.le_refl _⟩
  · have HNE := Lib.hid hnone
    have hpl : (pieces s 44).length ≤ s.size + 1 := by
      have := stR_len s 44 (j := s.size + 1) (Nat.le_refl _)
      rw [stR_all] at this; exact this
    clear hnone
    go_enter Tryz.func24, Tryz.ntmps24
    go_wp2_with fail
    refine (pieces_some s hs HNE.out _ (HM.out.on HB0.out)).mono ?_
    rintro e w1 ⟨rfl, hst, hz1, hb1⟩
    simp only [World.size_alloc] at hst hz1
    have HST := Lib.hid hst
    have HB1 := Lib.hid (HB0.out.trans (hb1.mono (by simp)))
    have HO1 := Lib.hid (HO0.out.below hb1 (by simp))
    clear hst hb1
    go_wp2_with fail
    go_loopw [4, 13] (fun out i wr => ∃ (k b cap : Nat) (ms : List Nat), k ≤ (pieces s 44).length ∧ i = .int .i64 k ∧ out = .slice (some ⟨b, 0, none⟩) k cap ∧ Hid (Sofar hex1 Own1 Lt32 s.data.toList k ms) ∧ Hid (ORow wr 61 1 b cap k (ms.map (Value.float .f32))) ∧ Hid (SlT wr (w.heap.size + 1) (w.heap.size + 1 + 1) (some ⟨w.heap.size + 1, 0, none⟩) (pieces s 44)) ∧ w.heap.size ≤ b ∧ b ≠ w.heap.size + 1 ∧ w.heap.size + 1 < wr.heap.size ∧ Hid (Below w.heap.size w wr)) (fun _ i _ => (pieces s 44).length - (intOf i).toNat)
    case atStart => exact ⟨0, w.heap.size, 0, [], by omega, rfl, rfl, Sofar.zero _ _ _ _, HO1, HST, Nat.le_refl _, by omega, by omega, HB1⟩
    case round =>
      obtain ⟨k, b, cap, ms, hk, rfl, rfl, HG, HR, HP, hbb, hbne, hzr, HW⟩ := hrel
      have hz := HW.out.size
      have hfew := HG.out.few
      by_cases hlt : k < (pieces s 44).length
      · obtain ⟨bp, op, hbo, _, _, hc⟩ := HP.out (by omega)
        obtain ⟨rfl, rfl⟩ : w.heap.size + 1 = bp ∧ 0 = op := by cases hbo; exact ⟨rfl, rfl⟩
        have c1 := hc k hlt
        rw [Nat.zero_add] at c1
        have HNR : Hid ((∀ x, Own1 x → (sAt (pieces s 44) k).data.toList ≠ hex1 x) → ∀ xs, ¬ Reads hex1 Own1 s.data.toList xs) := Lib.hid fun h xs => no_reads texts1 HNE.out hlt h xs
        have HGS : Hid (k ≠ 256 → ∀ x, Lt32 x → (∀ n, Own1 n → (sAt (pieces s 44) k).data.toList = hex1 n → x = n) → Sofar hex1 Own1 Lt32 s.data.toList (k + 1) (ms ++ [x])) := Lib.hid fun h0 x h1 h2 => HG.out.succ texts1 HNE.out hlt h0 h1 h2
        generalize hL : sAt (pieces s 44) k = L at *
        have k0 : (0 : Int) ≤ (k : Int) := by omega
        have k1 : (k : Int) < ((pieces s 44).length : Int) := by omega
        clear hL hc hbo
        by_cases h8 : L.size = 8
        · have h8b : ((L.size : Int) != 8) = false := by rw [h8]; rfl
          have H8 := Lib.hid h8
          by_cases h256 : k = 256
          · have hb : ((k : Int) == 256) = true := by rw [h256]; rfl
            have HNO : Hid (∀ xs, ¬ Reads hex1 Own1 s.data.toList xs) := Lib.hid (many_reads texts1 HNE.out (by omega))
            clear h8 h256
            go_wp2_with fail
            go_ret2
            exact ⟨fun xs h => absurd h (HNO.out xs), fun _ => rfl, HW.out⟩
          · have hb : ((k : Int) == 256) = false := by simp; omega
            have HGS2 := Lib.hid (HGS.out h256)
            clear h8 h256
            go_wp2_with fail
            refine (readHex L H8.out _ (HE.out.on HW.out)).mono ?_
            rintro e w4 ⟨⟨m, hm, hu, rfl⟩, hb4⟩
            have hz4 := hb4.size
            have HG2 := Lib.hid (HGS2.out m hm fun n hn h => hu n hn.1 h)
            have HR4 := Lib.hid (HR.out.below hb4 HR.out.lt)
            have HP4 := Lib.hid (HP.out.far (Far.below hb4 (by omega)))
            have HB4 := Lib.hid (HW.out.trans (hb4.mono hz))
            clear hm hu hb4
            go_wp2_with (at_builtin; refine wpList_app rfl _ _ _ rfl 61 (.float .f32 0) 1 4 Tryz.underlying23 infoFl rfl (by decide) _ #[_] 61 rfl (by simp [Value.oneCell']) b cap _ _ rfl rfl HR4.out (by omega) (by decide) ?_; intro b' cap' w6 hr hg hgr)
            have hrl2 := HR4.out.lt
            have hgz := hgr.size
            go_roundw
            case rel =>
              refine ⟨k + 1, b', cap', ms ++ [m], by omega, by go_num, rfl, HG2, ?_, Lib.hid (HP4.out.far (hgr.far (by omega) (by omega))), by omega, by omega, by omega, Lib.hid (HB4.out.trans (hgr.below hbb (by omega)))⟩
              rw [List.map_append]; exact Lib.hid hr
            case measure => simp [intOf]; omega
        · have h8b : ((L.size : Int) != 8) = true := by simp; omega
          have hno : ∀ x, Own1 x → L.data.toList ≠ hex1 x := fun x _ h => h8 (by rw [← size_list, h, hex1, hexK_length])
          have HNO := Lib.hid (HNR.out hno)
          clear hno h8
          go_wp2_with fail
          go_ret2
          exact ⟨fun xs h => absurd h (HNO.out xs), fun _ => rfl, HW.out⟩
      · have hkk : k = (pieces s 44).length := by omega
        subst hkk
        have hl := HG.out.len
        have HNT := Lib.hid (show Calls Tryz.prog 51 #[.slice (some ⟨b, 0, none⟩) (pieces s 44).length cap] wr fun e w' => e = .returned (.tuple #[.string ⟨(numT (ms.map (can .f32))).toArray⟩, .bool true]) ∧ Below wr.heap.size wr w' by
          have := numbersText b (b + 1) (some ⟨b, 0, none⟩) cap (ms.map (can .f32)) (by rw [List.length_map]; omega) wr (HR.out.raw HG.out.lt) HR.out.lt (HT.out.on HW.out)
          rw [List.length_map, hl] at this
          exact this)
        have HALL := Lib.hid (HG.out.all texts1 HNE.out)
        cases hq : ((numT (ms.map (can .f32))) == s.toList)
        · have HNO : Hid (∀ xs, ¬ Reads hex1 Own1 s.data.toList xs) := Lib.hid fun xs h => by
            have e1 := HALL.out xs h
            subst e1
            rw [map_can_self h.2.1] at hq
            have : s.toList = numT ms := by rw [ByteArray.toList_eq]; exact h.2.2
            rw [this] at hq
            simp at hq
          go_wp2_with (go_at_call 51; refine HNT.out.mono ?_; rintro e w5 ⟨rfl, hb5⟩)
          go_ret2
          exact ⟨fun xs h => absurd h (HNO.out xs), fun _ => rfl, HW.out.trans (hb5.mono hz)⟩
        · have hrd : Reads hex1 Own1 s.data.toList (ms.map (can .f32)) := reads_of_text (by omega) HG.out.lt (by rw [← ByteArray.toList_eq]; exact eq_of_beq hq)
          have HRD := Lib.hid hrd
          clear hrd
          go_wp2_with (go_at_call 51; refine HNT.out.mono ?_; rintro e w5 ⟨rfl, hb5⟩)
          have HR5 := Lib.hid (HR.out.below hb5 HR.out.lt)
          go_ret2
          refine ⟨fun xs h => ?_, fun h => absurd HRD.out (h _), HW.out.trans (hb5.mono hz)⟩
          obtain rfl := HALL.out xs h
          exact ⟨b, cap, by rw [hl]; rfl, by rw [hl]; exact HR5.out, hbb⟩
end Go.Proofs.YtlpgaekkhlinhaaGreatDoor

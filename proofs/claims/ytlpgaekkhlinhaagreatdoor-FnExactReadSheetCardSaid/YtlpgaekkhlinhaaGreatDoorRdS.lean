/- spec.l01From, l01Digits, l01NRead, l01CRead: texts of numbers read. -/
import Derived.Test.YtlpgaekkhlinhaaGreatDoorTxtS
import Derived.Test.YtlpgaekkhlinhaaGreatDoorRead
import Derived.Test.YtlpgaekkhlinhaaGreatDoorCutS
namespace Go.Fl
open Go.RowKit
theorem data_get (s : ByteArray) {k : Nat} (hk : k < s.size) : s.data.toList[k]'(by rw [size_list]; exact hk) = s[k] := by simp [ByteArray.getElem_eq_getElem_data]
/-- k digits have been read, they are n -/
structure Dig (s : ByteArray) (k n : Nat) : Prop where
  lt : n < 16 ^ k
  eq : s.data.toList.take k = hexK n k
theorem Dig.zero (s : ByteArray) : Dig s 0 0 := ⟨by decide, rfl⟩
theorem Dig.succ {s : ByteArray} {k n d : Nat} (h : Dig s k n) (hk : k < s.size) (hd : hexV s[k].toNat = some d) : Dig s (k + 1) (16 * n + d) := by
  have hl : k < s.data.toList.length := by rw [size_list]; exact hk
  rw [← data_get s hk] at hd
  refine ⟨?_, take_hex h.eq hl hd⟩
  have := (hexV_some hd).1
  have := h.lt
  rw [Nat.pow_succ]; omega
theorem Dig.not {s : ByteArray} {k : Nat} (hk : k < s.size) (hd : hexV s[k].toNat = none) (n j : Nat) : s.data.toList ≠ hexK n j := by
  rw [← data_get s hk] at hd
  exact not_hex (by rw [size_list]; exact hk) hd n j
theorem Dig.all {s : ByteArray} {n : Nat} (h : Dig s s.size n) : s.data.toList = hexK n s.size := by
  have := h.eq
  rwa [List.take_of_length_le (by rw [size_list]; exact Nat.le_refl _)] at this
theorem hexV_digit {c : Nat} (h1 : 48 ≤ c) (h2 : c ≤ 57) : hexV c = some (c - 48) := if_pos ⟨h1, h2⟩
theorem hexV_letter {c : Nat} (h1 : 97 ≤ c) (h2 : c ≤ 102) : hexV c = some (c - 87) := by rw [hexV, if_neg (by omega), if_pos ⟨h1, h2⟩]
theorem hexV_none {c : Nat} (h1 : ¬ (48 ≤ c ∧ c ≤ 57)) (h2 : ¬ (97 ≤ c ∧ c ≤ 102)) : hexV c = none := by rw [hexV, if_neg h1, if_neg h2]
theorem pow8 {k n : Nat} (hk : k ≤ 8) (h : n < 16 ^ k) : n < 4294967296 := Nat.lt_of_lt_of_le h (show 16 ^ k ≤ 16 ^ 8 from Nat.pow_le_pow_right (by decide) hk)
end Go.Fl
namespace Go.Fl
open Go.RowKit
theorem piece_data (s : ByteArray) (c : UInt8) {k : Nat} (hk : k < (pieces s c).length) : (sAt (pieces s c) k).data.toList = (cutL c s.data.toList)[k]'(by simpa [pieces] using hk) := by
  rw [show sAt (pieces s c) k = (pieces s c)[k] by simp [sAt, hk]]
  simp [pieces]
theorem pieces_cut_len (s : ByteArray) (c : UInt8) : (pieces s c).length = (cutL c s.data.toList).length := by simp [pieces]
/-- a piece that is no member's text: no list is read -/
theorem no_reads {α : Type} {f : α → List UInt8} {P : α → Prop} {m : Nat} (T : Texts f P m) {s : ByteArray} (hn : s.data.toList ≠ noneL) {k : Nat} (hk : k < (pieces s 44).length) (h : ∀ x, P x → (sAt (pieces s 44) k).data.toList ≠ f x) (xs : List α) : ¬ Reads f P s.data.toList xs := fun hr => by
  have hne : xs ≠ [] := fun e => hn ((hr.none T).2 e)
  have hc := hr.cut T hne
  have hk' : k < xs.length := by
    have := pieces_cut_len s 44
    rw [hc, List.length_map] at this
    omega
  refine h xs[k] (hr.2.1 _ (List.getElem_mem hk')) ?_
  rw [piece_data s 44 hk]
  simp only [hc, List.getElem_map]
theorem many_reads {α : Type} {f : α → List UInt8} {P : α → Prop} {m : Nat} (T : Texts f P m) {s : ByteArray} (hn : s.data.toList ≠ noneL) (h : 256 < (pieces s 44).length) (xs : List α) : ¬ Reads f P s.data.toList xs := fun hr => by
  have hne : xs ≠ [] := fun e => hn ((hr.none T).2 e)
  have hc := hr.cut T hne
  have := pieces_cut_len s 44
  rw [hc, List.length_map] at this
  have := hr.1
  omega
/-- k members have been read -/
structure Got {α : Type} (f : α → List UInt8) (P : α → Prop) (s : ByteArray) (k : Nat) (ys : List α) : Prop where
  len : ys.length = k
  ok : ∀ x ∈ ys, P x
  eq : (cutL 44 s.data.toList).take k = ys.map f
theorem Got.zero {α : Type} (f : α → List UInt8) (P : α → Prop) (s : ByteArray) : Got f P s 0 [] := ⟨rfl, fun x hx => (List.not_mem_nil hx).elim, rfl⟩
theorem Got.succ {α : Type} {f : α → List UInt8} {P : α → Prop} {s : ByteArray} {k : Nat} {ys : List α} (h : Got f P s k ys) (hk : k < (pieces s 44).length) {x : α} (hp : P x) (hx : (sAt (pieces s 44) k).data.toList = f x) : Got f P s (k + 1) (ys ++ [x]) := by
  have hk' : k < (cutL 44 s.data.toList).length := by rw [← pieces_cut_len]; exact hk
  refine ⟨by simp [h.len], fun y hy => ?_, ?_⟩
  · rcases List.mem_append.1 hy with hy | hy
    · exact h.ok y hy
    · obtain rfl : y = x := by simpa using hy
      exact hp
  · rw [List.take_succ_eq_append_getElem hk', h.eq, List.map_append, ← piece_data s 44 hk, hx]; rfl
theorem Got.reads {α : Type} {f : α → List UInt8} {P : α → Prop} {s : ByteArray} {ys : List α} (h : Got f P s (pieces s 44).length ys) (hl : (pieces s 44).length ≤ 256) : Reads f P s.data.toList ys := by
  have := h.eq
  rw [List.take_of_length_le (by rw [pieces_cut_len]; exact Nat.le_refl _)] at this
  exact Reads.of_cut this (by rw [h.len]; exact hl) h.ok
end Go.Fl
namespace Go.Proofs.YtlpgaekkhlinhaaGreatDoor
open Go.RowKit Go.Fl

theorem l01From (x : Nat) (hx : x < 4294967296) (w : World) : Calls Tryz.prog 69 #[.int .i64 x] w fun e w' => e = .returned (.float .f32 x) ∧ w' = w := by
  have hw : IntKind.u32.wrap (x : Int) = (x : Int) := by rw [IntKind.wrap_u32]; omega
  have hbits := run_frombits x
  go_enter Tryz.func69, Tryz.ntmps69
  go_wp2_with fail
  go_ret
  exact ⟨rfl, rfl⟩

set_option maxHeartbeats 2000000 in
theorem l01Digits (s : ByteArray) (hs : s.size = 8) (w : World) :
    Calls Tryz.prog 68 #[.string s] w fun e w' => (∀ x, Own1 x → s.data.toList = hex1 x → e = .returned (.tuple #[.float .f32 x, .bool true])) ∧ ((¬ ∃ x, Own1 x ∧ s.data.toList = hex1 x) → e = .returned (.tuple #[.float .f32 0, .bool false])) ∧ w' = w := by
  go_enter Tryz.func68, Tryz.ntmps68
  go_wp2_with fail
  go_loopw [4, 5] (fun t i wr => ∃ k n : Nat, k ≤ s.size ∧ t = .int .i64 n ∧ i = .int .i64 k ∧ Hid (wr = w) ∧ Hid (Dig s k n)) (fun _ i _ => s.size - (intOf i).toNat)
  case atStart => exact ⟨0, 0, by omega, rfl, rfl, rfl, Dig.zero s⟩
  case round =>
    obtain ⟨k, n, hk, rfl, rfl, HW, HD⟩ := hrel
    obtain rfl := HW.out
    have hn := pow8 (by omega) HD.out.lt
    by_cases hlt : k < s.size
    · have k0 : (0 : Int) ≤ (k : Int) := by omega
      have k1 : (k : Int) < (s.size : Int) := by omega
      have hc := s[k].toNat_lt
      by_cases a1 : 48 ≤ s[k].toNat ∧ s[k].toNat ≤ 57
      · have HN := Lib.hid (HD.out.succ hlt (hexV_digit a1.1 a1.2))
        obtain ⟨a1, a2⟩ := a1
        have b1 : (48 : Int) ≤ (s[k].toNat : Int) := by omega
        have b2 : (s[k].toNat : Int) ≤ 57 := by omega
        have b3 : ¬ (97 : Int) ≤ (s[k].toNat : Int) := by omega
        go_wp2_with fail
        refine ⟨⟨k + 1, 16 * n + (s[k].toNat - 48), by omega, by go_num, by go_num, Lib.hid trivial, HN⟩, by simp [intOf]; omega⟩
      · by_cases a2 : 97 ≤ s[k].toNat ∧ s[k].toNat ≤ 102
        · have HN := Lib.hid (HD.out.succ hlt (hexV_letter a2.1 a2.2))
          obtain ⟨a3, a4⟩ := a2
          clear a1
          have b1 : (48 : Int) ≤ (s[k].toNat : Int) := by omega
          have b2 : ¬ (s[k].toNat : Int) ≤ 57 := by omega
          have b3 : (97 : Int) ≤ (s[k].toNat : Int) := by omega
          have b4 : (s[k].toNat : Int) ≤ 102 := by omega
          go_wp2_with fail
          refine ⟨⟨k + 1, 16 * n + (s[k].toNat - 87), by omega, by go_num, by go_num, Lib.hid trivial, HN⟩, by simp [intOf]; omega⟩
        · have hno : ∀ x, s.data.toList ≠ hex1 x := fun x => Dig.not hlt (hexV_none a1 a2) x 8
          have HNO := Lib.hid hno
          clear hno
          by_cases c1 : 48 ≤ s[k].toNat
          · by_cases c2 : 97 ≤ s[k].toNat
            · have b1 : (48 : Int) ≤ (s[k].toNat : Int) := by omega
              have b2 : ¬ (s[k].toNat : Int) ≤ 57 := by omega
              have b3 : (97 : Int) ≤ (s[k].toNat : Int) := by omega
              have b4 : ¬ (s[k].toNat : Int) ≤ 102 := by omega
              clear a1 a2
              go_wp2_with fail
              go_ret2
              exact ⟨fun x _ h => absurd h (HNO.out x), fun _ => rfl, rfl⟩
            · have b1 : (48 : Int) ≤ (s[k].toNat : Int) := by omega
              have b2 : ¬ (s[k].toNat : Int) ≤ 57 := by omega
              have b3 : ¬ (97 : Int) ≤ (s[k].toNat : Int) := by omega
              clear a1 a2
              go_wp2_with fail
              go_ret2
              exact ⟨fun x _ h => absurd h (HNO.out x), fun _ => rfl, rfl⟩
          · have b1 : ¬ (48 : Int) ≤ (s[k].toNat : Int) := by omega
            have b3 : ¬ (97 : Int) ≤ (s[k].toNat : Int) := by omega
            clear a1 a2
            go_wp2_with fail
            go_ret2
            exact ⟨fun x _ h => absurd h (HNO.out x), fun _ => rfl, rfl⟩
    · have hkk : k = s.size := by omega
      subst hkk
      have hall := HD.out.all
      rw [hs] at hall
      have HA := Lib.hid hall
      have HL := Lib.hid HD.out.lt
      clear hall HD
      have hl2 := can_lt n hn
      by_cases hcn : can .f32 n = n
      · have HC := Lib.hid hcn
        clear hcn
        go_wp2_with (first | (go_at_call 69; refine (l01From n hn _).mono ?_; rintro e w1 ⟨rfl, hw⟩; rw [hw]; clear hw) | (go_at_call 70; refine (l01Bits n hn _).mono ?_; rintro e w2 ⟨rfl, hw⟩; rw [hw, HC.out]; clear hw))
        go_ret2
        refine ⟨fun x hx h => ?_, fun h => absurd ⟨n, ⟨hn, HC.out⟩, HA.out⟩ h, rfl⟩
        rw [texts1.inj x n hx ⟨hn, HC.out⟩ (h.symm.trans HA.out)]
        rfl
      · have hb : (((can .f32 n : Nat) : Int) != (n : Int)) = true := by simp; omega
        have HC := Lib.hid hcn
        clear hcn
        generalize hm : can .f32 n = m at *
        have HM := Lib.hid hm
        clear hm
        go_wp2_with (first | (go_at_call 69; refine (l01From n hn _).mono ?_; rintro e w1 ⟨rfl, hw⟩; rw [hw]; clear hw) | (go_at_call 70; refine (l01Bits n hn _).mono ?_; rintro e w2 ⟨rfl, hw⟩; rw [hw, HM.out]; clear hw))
        go_ret2
        have hno : ∀ x, Own1 x → s.data.toList ≠ hex1 x := fun x hx h => by
          have := hexK_inj 8 x n (by simpa using hx.1) (by simpa using hn) (h.symm.trans HA.out)
          subst this
          exact HC.out (HM.out.symm.trans hx.2)
        exact ⟨fun x hx h => absurd h (hno x hx), fun _ => rfl, rfl⟩

theorem infoFl : (Tryz.prog.info? 61).map (fun i => (i.zero, i.size, i.bytes)) = some (some (.float .f32 0), 1, 4) := by kernel_rfl

set_option maxHeartbeats 4000000 in
theorem l01NRead (s : ByteArray) (hs : s.size ≤ 1048576) (w : World) :
    Calls Tryz.prog 45 #[.string s] w fun e w' => (∀ xs, Reads hex1 Own1 s.data.toList xs → ∃ b cap, e = .returned (.tuple #[.slice (some ⟨b, 0, none⟩) xs.length cap, .bool true]) ∧ ORow w' 61 1 b cap xs.length (xs.map (Value.float .f32)) ∧ w.heap.size ≤ b) ∧
      ((∀ xs, ¬ Reads hex1 Own1 s.data.toList xs) → e = .returned (.tuple #[.slice none 0 0, .bool false])) ∧ Below w.heap.size w w' := by
  cases hnone : (s.toList == [110, 111, 110, 101])
  rotate_left
  · have he : s.data.toList = noneL := by rw [← ByteArray.toList_eq]; exact eq_of_beq hnone
    have HE := Lib.hid he
    clear he
    go_enter Tryz.func45, Tryz.ntmps45
    go_wp2_with fail
    go_ret2
    refine ⟨fun xs h => ?_, fun h => absurd (Reads.nil HE.out) (h []), Below.alloc (Below.refl _ _) (Nat.le_refl _) _⟩
    obtain rfl : xs = [] := (h.none texts1).1 HE.out
    exact ⟨_, _, rfl, ORow.new w _ _, Nat.le_refl _⟩
  · have hne : s.data.toList ≠ noneL := by
      intro e
      rw [ByteArray.toList_eq, e] at hnone
      exact absurd hnone (by decide)
    have HNE := Lib.hid hne
    have hpl : (pieces s 44).length ≤ s.size + 1 := by
      have := stR_len s 44 (j := s.size + 1) (Nat.le_refl _)
      rw [stR_all] at this; exact this
    clear hne
    go_enter Tryz.func45, Tryz.ntmps45
    by_cases hmany : 256 < (pieces s 44).length
    · have hm : (256 : Int) < ((pieces s 44).length : Int) := by omega
      have HM := Lib.hid hmany
      clear hmany
      go_wp2_with (go_at_call 43; refine (l01Cut s 44 44 rfl hs _).mono ?_; rintro e w1 ⟨bp, cp, rfl, hr1, hb1, hbel1⟩)
      go_ret2
      exact ⟨fun xs h => absurd h (many_reads texts1 HNE.out HM.out xs), fun _ => rfl, Below.trans (Below.alloc (Below.refl _ _) (Nat.le_refl _) _) (hbel1.mono (by simp))⟩
    have hm : ¬ (256 : Int) < ((pieces s 44).length : Int) := by omega
    go_wp2_with (go_at_call 43; refine (l01Cut s 44 44 rfl hs _).mono ?_; rintro e w1 ⟨bp, cp, rfl, hr1, hb1, hbel1⟩)
    have HP1 := Lib.hid hr1
    have hbp : w.heap.size < bp := by simp at hb1; omega
    have HB1 := Lib.hid (Below.trans (Below.alloc (Below.refl _ w) (Nat.le_refl _) (.cells #[] 61)) (hbel1.mono (by simp)))
    have HO1 := Lib.hid ((ORow.new w 61 1).below hbel1 (by simp))
    clear hr1 hb1 hbel1
    go_loopw [4, 6] (fun out i wr => ∃ (k b cap : Nat) (ys : List Nat), k ≤ (pieces s 44).length ∧ i = .int .i64 k ∧ out = .slice (some ⟨b, 0, none⟩) k cap ∧ Hid (Got hex1 Own1 s k ys) ∧ Hid (ORow wr 61 1 b cap k (ys.map (Value.float .f32))) ∧ Hid (ORow wr 9 1 bp cp (pieces s 44).length ((pieces s 44).map Value.string)) ∧ w.heap.size ≤ b ∧ b ≠ bp ∧ Hid (Below w.heap.size w wr)) (fun _ i _ => (pieces s 44).length - (intOf i).toNat)
    case atStart => exact ⟨0, w.heap.size, 0, [], by omega, rfl, rfl, Got.zero _ _ _, HO1, HP1, Nat.le_refl _, by omega, HB1⟩
    case round =>
      obtain ⟨k, b, cap, ys, hk, rfl, rfl, HG, HR, HP, hbb, hbne, HW⟩ := hrel
      have hz := HW.out.size
      by_cases hlt : k < (pieces s 44).length
      · have c1 := HP.out.cell k (by omega)
        rw [List.getElem?_map, List.getElem?_eq_getElem hlt] at c1
        have hps : (pieces s 44)[k] = sAt (pieces s 44) k := by simp [sAt, hlt]
        rw [hps] at c1
        replace c1 : wr.cell? ⟨bp, k, none⟩ = some (.string (sAt (pieces s 44) k)) := c1
        have HNR : Hid ((∀ x, Own1 x → (sAt (pieces s 44) k).data.toList ≠ hex1 x) → ∀ xs, ¬ Reads hex1 Own1 s.data.toList xs) := Lib.hid fun h xs => no_reads texts1 HNE.out hlt h xs
        have HGS : Hid (∀ x, Own1 x → (sAt (pieces s 44) k).data.toList = hex1 x → Got hex1 Own1 s (k + 1) (ys ++ [x])) := Lib.hid fun x h1 h2 => HG.out.succ hlt h1 h2
        generalize hL : sAt (pieces s 44) k = L at *
        have k0 : (0 : Int) ≤ (k : Int) := by omega
        have k1 : (k : Int) < ((pieces s 44).length : Int) := by omega
        clear hps hL
        by_cases h8 : L.size = 8
        · have h8b : ((L.size : Int) != 8) = false := by rw [h8]; rfl
          have H8 := Lib.hid h8
          go_wp2_with fail
          go_loopw [7, 8] (fun t i wq => ∃ q n : Nat, q ≤ L.size ∧ t = .int .i64 n ∧ i = .int .i64 q ∧ Hid (wq = wr) ∧ Hid (Dig L q n)) (fun _ i _ => L.size - (intOf i).toNat)
          case atStart => exact ⟨0, 0, by omega, rfl, rfl, rfl, Dig.zero L⟩
          case round =>
            obtain ⟨q, n, hq, rfl, rfl, HQ, HD⟩ := hrel
            obtain rfl := HQ.out
            have hn := pow8 (by have := H8.out; omega) HD.out.lt
            by_cases hlq : q < L.size
            · have q0 : (0 : Int) ≤ (q : Int) := by omega
              have q1 : (q : Int) < (L.size : Int) := by omega
              have q2 : (q : Int) < 8 := by omega
              have hc := L[q].toNat_lt
              by_cases a1 : 48 ≤ L[q].toNat ∧ L[q].toNat ≤ 57
              · have HN := Lib.hid (HD.out.succ hlq (hexV_digit a1.1 a1.2))
                obtain ⟨a1, a2⟩ := a1
                have b1 : (48 : Int) ≤ (L[q].toNat : Int) := by omega
                have b2 : (L[q].toNat : Int) ≤ 57 := by omega
                have b3 : ¬ (97 : Int) ≤ (L[q].toNat : Int) := by omega
                go_wp2_with fail
                refine ⟨⟨q + 1, 16 * n + (L[q].toNat - 48), by omega, by go_num, by go_num, by first | exact Lib.hid trivial | exact Lib.hid rfl, HN⟩, by simp [intOf]; omega⟩
              · by_cases a2 : 97 ≤ L[q].toNat ∧ L[q].toNat ≤ 102
                · have HN := Lib.hid (HD.out.succ hlq (hexV_letter a2.1 a2.2))
                  obtain ⟨a3, a4⟩ := a2
                  clear a1
                  have b1 : (48 : Int) ≤ (L[q].toNat : Int) := by omega
                  have b2 : ¬ (L[q].toNat : Int) ≤ 57 := by omega
                  have b3 : (97 : Int) ≤ (L[q].toNat : Int) := by omega
                  have b4 : (L[q].toNat : Int) ≤ 102 := by omega
                  go_wp2_with fail
                  refine ⟨⟨q + 1, 16 * n + (L[q].toNat - 87), by omega, by go_num, by go_num, by first | exact Lib.hid trivial | exact Lib.hid rfl, HN⟩, by simp [intOf]; omega⟩
                · have HNO := Lib.hid (HNR.out fun x _ => Dig.not hlq (hexV_none a1 a2) x 8)
                  by_cases c2 : 48 ≤ L[q].toNat
                  · by_cases c3 : 97 ≤ L[q].toNat
                    · have b1 : (48 : Int) ≤ (L[q].toNat : Int) := by omega
                      have b2 : ¬ (L[q].toNat : Int) ≤ 57 := by omega
                      have b3 : (97 : Int) ≤ (L[q].toNat : Int) := by omega
                      have b4 : ¬ (L[q].toNat : Int) ≤ 102 := by omega
                      clear a1 a2
                      go_wp2_with fail
                      go_ret2
                      exact ⟨fun xs h => absurd h (HNO.out xs), fun _ => rfl, HW.out⟩
                    · have b1 : (48 : Int) ≤ (L[q].toNat : Int) := by omega
                      have b2 : ¬ (L[q].toNat : Int) ≤ 57 := by omega
                      have b3 : ¬ (97 : Int) ≤ (L[q].toNat : Int) := by omega
                      clear a1 a2
                      go_wp2_with fail
                      go_ret2
                      exact ⟨fun xs h => absurd h (HNO.out xs), fun _ => rfl, HW.out⟩
                  · have b1 : ¬ (48 : Int) ≤ (L[q].toNat : Int) := by omega
                    have b3 : ¬ (97 : Int) ≤ (L[q].toNat : Int) := by omega
                    clear a1 a2
                    go_wp2_with fail
                    go_ret2
                    exact ⟨fun xs h => absurd h (HNO.out xs), fun _ => rfl, HW.out⟩
            · have hqq : q = L.size := by omega
              subst hqq
              have hall := HD.out.all
              rw [H8.out] at hall
              have HA := Lib.hid hall
              clear hall HD
              have hl2 := can_lt n hn
              have q2 : ¬ (L.size : Int) < 8 := by omega
              by_cases hcn : can .f32 n = n
              · have HC := Lib.hid hcn
                have HG2 := Lib.hid (HGS.out n ⟨hn, hcn⟩ HA.out)
                clear hcn
                go_wp2_with (first | (go_at_call 69; refine (l01From n hn _).mono ?_; rintro e w4 ⟨rfl, hw⟩; rw [hw]; clear hw) | (go_at_call 70; refine (l01Bits n hn _).mono ?_; rintro e w5 ⟨rfl, hw⟩; rw [hw, HC.out]; clear hw) | (at_builtin; refine wpList_app rfl _ _ _ rfl 61 (.float .f32 0) 1 4 Tryz.underlying23 infoFl rfl (by decide) _ #[_] 61 rfl (by simp [Value.oneCell']) b cap _ _ rfl rfl HR.out (by omega) (by decide) ?_; intro b' cap' w6 hr hg hgr))
                have hpl2 := HP.out.lt
                have hrl2 := HR.out.lt
                refine ⟨⟨k + 1, b', cap', ys ++ [n], by omega, by go_num, rfl, HG2, ?_, Lib.hid (HP.out.grew hgr (fun e => hbne e.symm)), by omega, by omega, Lib.hid (HW.out.trans (hgr.below hbb hz))⟩, by simp [intOf]; omega⟩
                rw [List.map_append]; exact Lib.hid hr
              · have hb : (((can .f32 n : Nat) : Int) != (n : Int)) = true := by simp; omega
                have hno : ∀ x, Own1 x → L.data.toList ≠ hex1 x := fun x hx h => by
                  have := hexK_inj 8 x n (by simpa using hx.1) (by simpa using hn) (h.symm.trans HA.out)
                  subst this
                  exact hcn hx.2
                have HNO := Lib.hid (HNR.out hno)
                clear hcn hno
                generalize hm2 : can .f32 n = m at *
                have HM := Lib.hid hm2
                clear hm2
                go_wp2_with (first | (go_at_call 69; refine (l01From n hn _).mono ?_; rintro e w4 ⟨rfl, hw⟩; rw [hw]; clear hw) | (go_at_call 70; refine (l01Bits n hn _).mono ?_; rintro e w5 ⟨rfl, hw⟩; rw [hw, HM.out]; clear hw))
                go_ret2
                exact ⟨fun xs h => absurd h (HNO.out xs), fun _ => rfl, HW.out⟩
        · have h8b : ((L.size : Int) != 8) = true := by simp; omega
          have hno : ∀ x, Own1 x → L.data.toList ≠ hex1 x := fun x _ h => h8 (by rw [← size_list, h, hex1, hexK_length])
          have HNO := Lib.hid (HNR.out hno)
          clear hno h8
          go_wp2_with fail
          go_ret2
          exact ⟨fun xs h => absurd h (HNO.out xs), fun _ => rfl, HW.out⟩
      · have hkk : k = (pieces s 44).length := by omega
        subst hkk
        have hr := HG.out.reads (by omega)
        have HRD := Lib.hid hr
        have hl := HG.out.len
        go_wp2_with fail
        go_ret2
        refine ⟨fun xs h => ?_, fun h => absurd HRD.out (h _), HW.out⟩
        obtain rfl := h.unique texts1 HRD.out
        exact ⟨b, cap, by rw [hl]; rfl, by rw [hl]; exact HR.out, hbb⟩
end Go.Proofs.YtlpgaekkhlinhaaGreatDoor

/- strconv.ParseUint of eight bytes in base 16; the program's readHex. -/
import Derived.Test.YtlpgaekkhlinhaaGreatDoorRdS
import Derived.Test.YtlpgaekkhlinhaaGreatDoorShelf
import Derived.Laws.IdiomStrings
import Derived.Deep.Cut
import Derived.Deep.CutRange
namespace Go.Fl
open Go.RowKit
/-- a byte made lower -/
def lowV (c : Nat) : Int := bits .or .u8 (c : Int) 32
theorem lowV_is : ∀ c : Fin 256, (0 ≤ lowV c.1 ∧ lowV c.1 ≤ 255) ∧ (¬ (48 ≤ c.1 ∧ c.1 ≤ 57) → (hexV c.1).all (fun (d : Nat) => decide (lowV c.1 = (d : Int) + 87 ∧ d < 16 ∧ 10 ≤ d)) = true) := by decide +kernel
theorem lowV_range (c : UInt8) : 0 ≤ lowV c.toNat ∧ lowV c.toNat ≤ 255 := (lowV_is ⟨c.toNat, c.toNat_lt⟩).1
theorem lowV_hex {c : UInt8} {d : Nat} (h : ¬ (48 ≤ c.toNat ∧ c.toNat ≤ 57)) (hd : hexV c.toNat = some d) : lowV c.toNat = (d : Int) + 87 ∧ d < 16 ∧ 10 ≤ d := by
  have h1 := (lowV_is ⟨c.toNat, c.toNat_lt⟩).2 h
  have h2 : (some d : Option Nat).all (fun (d : Nat) => decide (lowV c.toNat = (d : Int) + 87 ∧ d < 16 ∧ 10 ≤ d)) = true := hd ▸ h1
  rw [Option.all_some, decide_eq_true_eq] at h2
  exact h2
/-- the number that k bytes come to, whatever they are; if they are digits, theirs -/
structure Num (s : ByteArray) (k m : Nat) : Prop where
  lt : m < 16 ^ k
  eq : ∀ n, n < 16 ^ k → s.data.toList.take k = hexK n k → m = n
theorem Num.zero (s : ByteArray) : Num s 0 0 := ⟨by decide, fun n h _ => by simp at h; omega⟩
theorem Num.succ {s : ByteArray} {k m d : Nat} (h : Num s k m) (hk : k < s.size) (hd : d < 16) (hx : ∀ e, hexV s[k].toNat = some e → d = e) : Num s (k + 1) (16 * m + d) := by
  have hl : k < s.data.toList.length := by rw [size_list]; exact hk
  refine ⟨by have := h.lt; rw [Nat.pow_succ]; omega, fun n hn he => ?_⟩
  rw [hexK, List.take_succ_eq_append_getElem hl] at he
  obtain ⟨h1, h2⟩ := List.append_inj he (by rw [List.length_take, hexK_length]; omega)
  have h3 : s.data.toList[k] = hexD (n % 16) := by simpa using h2
  have h4 := hx (n % 16) (by rw [← data_get s hk, h3]; exact hexV_D ⟨n % 16, Nat.mod_lt _ (by decide)⟩)
  have h5 := h.eq (n / 16) (by rw [Nat.div_lt_iff_lt_mul (by decide), ← Nat.pow_succ]; exact hn) h1
  omega
/-- a byte that is no digit: the eight are none -/
theorem bad_byte {s : ByteArray} {k : Nat} (hk : k < s.size) (h : ∀ e, hexV s[k].toNat ≠ some e) (n j : Nat) : s.data.toList ≠ hexK n j := by
  refine Dig.not hk ?_ n j
  cases hc : hexV s[k].toNat with
  | none => rfl
  | some e => exact absurd hc (h e)
end Go.Fl
namespace Go.Proofs.YtlpgaekkhlinhaaGreatDoor
open Go.RowKit Go.Fl

set_option maxHeartbeats 4000000 in
set_option maxRecDepth 100000 in
theorem parseUintI (s : ByteArray) (hs : s.size = 8) (w : World) :
    Calls Tryz.prog 102 #[.string s, .int .i64 16, .int .i64 32] w fun e w' => (∀ n, n < 4294967296 → s.data.toList = hexK n 8 → e = .returned (.tuple #[.int .u64 n, .nilIface])) ∧
      (∃ m : Nat, m < 4294967296 ∧ ∃ ev : Value, e = .returned (.tuple #[.int .u64 m, ev]) ∧ (ev = .nilIface ∨ ev = .iface 142 (.int .i64 2))) ∧ Below w.heap.size w w' := by
  have hne : (s.toList == ([] : List UInt8)) = false := by
    rw [ByteArray.toList_eq]
    have := size_list s
    cases h : s.data.toList with
    | nil => rw [h] at this; simp at this; omega
    | cons => rfl
  have hcs : ∀ W : World, (convert 9 137 (.string s)).run Tryz.prog W = _ := fun W => run_bytes_of_string (P := Tryz.prog) W 9 137 5 s Tryz.underlying9 Tryz.underlying137 Tryz.underlying5
  have hbc : ∀ (cap : Nat) (T : TypeId) (fr : Nat × Nat) (j : Nat), (hj : j < s.size) → (w.drew.alloc (.cells (bytesRow s cap) T fr)).cell? ⟨w.heap.size, j, none⟩ = some (.int .u8 (s[j].toNat : Int)) := fun cap T fr j hj => by
    rw [show (w.drew.alloc (.cells (bytesRow s cap) T fr)).cell? ⟨w.heap.size, j, none⟩ = (w.drew.alloc (.cells (bytesRow s cap) T fr)).cell? ⟨w.drew.heap.size, j, none⟩ from rfl, World.cell?_alloc_mark, bytesRow_at s cap j hj]; rfl
  have HBC := Lib.hid hbc
  clear hbc
  go_enter Tryz.func102, Tryz.ntmps102
  go_wp2_with fail
  go_loopw [12, 13, 101] (fun un t i wr => ∃ (k m : Nat) (a : Int), k ≤ s.size ∧ un = .bool false ∧ t = .int .u64 a ∧ i = .int .i64 k ∧ Hid (a = (m : Int)) ∧ Hid (Num s k m) ∧ Hid (∀ j, (hj : j < s.size) → wr.cell? ⟨w.heap.size, j, none⟩ = some (.int .u8 (s[j].toNat : Int))) ∧ Hid (Below w.heap.size w wr)) (fun _ _ i _ => s.size - (intOf i).toNat)
  case atStart => exact ⟨0, 0, 0, by omega, rfl, rfl, rfl, rfl, Num.zero s, fun j hj => HBC.out _ _ _ j hj, Below.alloc (below_dr (Below.refl _ w) 1) (Nat.le_refl _) _⟩
  case round =>
    clear hcs
    obtain ⟨k, m, a, hk, rfl, rfl, rfl, HA, HN, HC, HW⟩ := hrel
    have a0 : 0 ≤ a := by have := HA.out; omega
    have a9 : a ≤ 4294967295 := by have := HA.out; have := pow8 (by omega) HN.out.lt; omega
    by_cases hlt : k < s.size
    · have c1 := HC.out k hlt
      have k0 : (0 : Int) ≤ (k : Int) := by omega
      have k1 : (k : Int) < (s.size : Int) := by omega
      have hc := s[k].toNat_lt
      by_cases a1 : 48 ≤ s[k].toNat ∧ s[k].toNat ≤ 57
      · have hn2 := HN.out.succ (d := s[k].toNat - 48) hlt (by omega) fun e he => by rw [hexV_digit a1.1 a1.2] at he; exact Option.some.inj he
        have hm2 := pow8 (by omega) hn2.lt
        have HN2 := Lib.hid hn2
        obtain ⟨a1, a2⟩ := a1
        have b0 : ((s[k].toNat : Int) == 95) = false := by simp; omega
        have b1 : (48 : Int) ≤ (s[k].toNat : Int) := by omega
        have b2 : (s[k].toNat : Int) ≤ 57 := by omega
        have b3 : 16 * a + ((s[k].toNat : Int) - 48) ≤ 4294967295 := by have := HA.out; omega
        have HA2 : Hid (a * 16 + ((s[k].toNat : Int) - 48) = ((16 * m + (s[k].toNat - 48) : Nat) : Int)) := Lib.hid (by have := HA.out; omega)
        generalize hcc : (s[k].toNat : Int) = c at *
        clear hn2 hm2 a1 a2 hc hcc
        go_wp2_with fail
        exact ⟨⟨k + 1, _, _, by omega, rfl, rfl, by go_num, HA2, HN2, HC, HW⟩, by simp [intOf]; omega⟩
      · have HL0 : Hid (∀ w0 : World, Calls Tryz.prog 132 #[.int .u8 (s[k].toNat : Int)] w0 fun e w' => e = .returned (.int .u8 (lowV s[k].toNat)) ∧ w' = w0) := Lib.hid fun w0 => Tryz.internal_strconv_lower _ w0
        obtain ⟨l0, l9⟩ := lowV_range s[k]
        have HV : Hid (∀ e, hexV s[k].toNat = some e → lowV s[k].toNat = (e : Int) + 87 ∧ e < 16 ∧ 10 ≤ e) := Lib.hid fun e he => lowV_hex a1 he
        have HBAD : Hid ((∀ e, hexV s[k].toNat ≠ some e) → ∀ n, s.data.toList ≠ hexK n 8) := Lib.hid fun h n => bad_byte hlt h n 8
        have HNS : Hid (∀ d, d < 16 → (∀ e, hexV s[k].toNat = some e → d = e) → Num s (k + 1) (16 * m + d)) := Lib.hid fun d h1 h2 => HN.out.succ hlt h1 h2
        have hdg : ¬ ((48 : Int) ≤ (s[k].toNat : Int) ∧ (s[k].toNat : Int) ≤ 57) := by omega
        generalize lowV s[k].toNat = l at *
        generalize hexV s[k].toNat = hv at *
        generalize hcc : (s[k].toNat : Int) = c at *
        clear a1 hc hcc HBC
        by_cases l1 : 97 ≤ l ∧ l ≤ 102
        · obtain ⟨d, hd⟩ : ∃ d : Nat, l = (d : Int) + 87 := ⟨(l - 87).toNat, by omega⟩
          have hn2 := HNS.out d (by omega) (fun e he => by have := (HV.out e he).1; omega)
          have hm2 := pow8 (by omega) hn2.lt
          have HN2 := Lib.hid hn2
          have b3 : 16 * a + (l - 87) ≤ 4294967295 := by have := HA.out; omega
          have HA2 : Hid (a * 16 + (l - 97 + 10) = ((16 * m + d : Nat) : Int)) := Lib.hid (by have := HA.out; omega)
          obtain ⟨l1, l2⟩ := l1
          have l3 : l ≤ 122 := by omega
          clear hn2 hm2 hd
          by_cases g1 : 48 ≤ c
          · have g2 : ¬ c ≤ 57 := by omega
            clear hdg
            cases b0 : (c == 95)
            all_goals
              go_wp2_with (go_at_call 132; refine (HL0.out _).mono ?_; rintro e w2 ⟨rfl, hw⟩; rw [hw]; clear hw)
              exact ⟨⟨k + 1, _, _, by omega, rfl, rfl, by go_num, HA2, HN2, HC, HW⟩, by simp [intOf]; omega⟩
          · clear hdg
            have b0 : (c == 95) = false := by simp; omega
            go_wp2_with (go_at_call 132; refine (HL0.out _).mono ?_; rintro e w2 ⟨rfl, hw⟩; rw [hw]; clear hw)
            exact ⟨⟨k + 1, _, _, by omega, rfl, rfl, by go_num, HA2, HN2, HC, HW⟩, by simp [intOf]; omega⟩
        · have HNO := Lib.hid (HBAD.out fun e he => l1 (by have := HV.out e he; omega))
          have hend : ∀ w' : World, Below w.heap.size w w' → (∀ n, n < 4294967296 → s.data.toList = hexK n 8 → (Ending.returned (.tuple #[.int .u64 0, .iface 142 (.int .i64 2)])) = .returned (.tuple #[.int .u64 n, .nilIface])) ∧
      (∃ m : Nat, m < 4294967296 ∧ ∃ ev : Value, Ending.returned (.tuple #[.int .u64 0, .iface 142 (.int .i64 2)]) = .returned (.tuple #[.int .u64 m, ev]) ∧ (ev = .nilIface ∨ ev = .iface 142 (.int .i64 2))) ∧ Below w.heap.size w w' := fun w' hb =>
            ⟨fun n _ h => absurd h (HNO.out n), ⟨0, by decide, _, rfl, .inr rfl⟩, hb⟩
          have HEND := Lib.hid hend
          clear hend
          by_cases l2 : 97 ≤ l ∧ l ≤ 122
          · have l4 : 102 < l := by omega
            obtain ⟨l2, l3⟩ := l2
            clear l1
            by_cases g1 : 48 ≤ c
            · have g2 : ¬ c ≤ 57 := by omega
              clear hdg
              cases b0 : (c == 95)
              all_goals
                go_wp2_with (go_at_call 132; refine (HL0.out _).mono ?_; rintro e w2 ⟨rfl, hw⟩; rw [hw]; clear hw)
                go_ret2
                exact HEND.out _ HW.out
            · clear hdg
              have b0 : (c == 95) = false := by simp; omega
              go_wp2_with (go_at_call 132; refine (HL0.out _).mono ?_; rintro e w2 ⟨rfl, hw⟩; rw [hw]; clear hw)
              go_ret2
              exact HEND.out _ HW.out
          · clear l1
            by_cases l4 : 97 ≤ l
            · have l5 : ¬ l ≤ 122 := by omega
              clear l2
              by_cases g1 : 48 ≤ c
              · have g2 : ¬ c ≤ 57 := by omega
                clear hdg
                cases b0 : (c == 95)
                all_goals
                  go_wp2_with (go_at_call 132; refine (HL0.out _).mono ?_; rintro e w2 ⟨rfl, hw⟩; rw [hw]; clear hw)
                  go_ret2
                  exact HEND.out _ HW.out
              · clear hdg
                have b0 : (c == 95) = false := by simp; omega
                go_wp2_with (go_at_call 132; refine (HL0.out _).mono ?_; rintro e w2 ⟨rfl, hw⟩; rw [hw]; clear hw)
                go_ret2
                exact HEND.out _ HW.out
            · clear l2
              by_cases g1 : 48 ≤ c
              · have g2 : ¬ c ≤ 57 := by omega
                clear hdg
                cases b0 : (c == 95)
                all_goals
                  go_wp2_with (go_at_call 132; refine (HL0.out _).mono ?_; rintro e w2 ⟨rfl, hw⟩; rw [hw]; clear hw)
                  go_ret2
                  exact HEND.out _ HW.out
              · clear hdg
                have b0 : (c == 95) = false := by simp; omega
                go_wp2_with (go_at_call 132; refine (HL0.out _).mono ?_; rintro e w2 ⟨rfl, hw⟩; rw [hw]; clear hw)
                go_ret2
                exact HEND.out _ HW.out
    · have hkk : k = s.size := by omega
      subst hkk
      have hln : m < 4294967296 := by have := HA.out; omega
      have hu : ∀ n, n < 4294967296 → s.data.toList = hexK n 8 → n = m := fun n hn h => by
        have h1 := HN.out.eq n (by rw [hs]; exact hn) (by rw [List.take_of_length_le (by rw [size_list]; exact Nat.le_refl _), hs]; exact h)
        exact h1.symm
      have HU := Lib.hid hu
      have HLN := Lib.hid hln
      clear hu hln
      go_wp2_with fail
      go_ret2
      refine ⟨fun n hn h => ?_, ⟨m, HLN.out, .nilIface, ?_, .inl rfl⟩, HW.out⟩
      · rw [HU.out n hn h, ← HA.out]; rfl
      · rw [← HA.out]; rfl
end Go.Proofs.YtlpgaekkhlinhaaGreatDoor

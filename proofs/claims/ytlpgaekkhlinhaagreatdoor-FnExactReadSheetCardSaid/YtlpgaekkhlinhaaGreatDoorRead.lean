/- Texts of lists read back: plain Lean, no program. -/
import Derived.Test.YtlpgaekkhlinhaaGreatDoorPieces
import Derived.Test.YtlpgaekkhlinhaaGreatDoorHex
namespace Go.Fl
open Go.Lib
theorem joinTail_cons (sep x : List UInt8) (r : List (List UInt8)) : Lib.joinTail sep (x :: r) = sep ++ x ++ Lib.joinTail sep r := by simp [Lib.joinTail]
theorem join_cons2 (x y : List UInt8) (r : List (List UInt8)) (sep : List UInt8) : Lib.join (x :: y :: r) sep = x ++ sep ++ Lib.join (y :: r) sep := by
  rw [Lib.join_cons, Lib.join_cons, joinTail_cons]; simp
theorem join_cutL (c : UInt8) : ∀ l : List UInt8, Lib.join (cutL c l) [c] = l
  | [] => by simp [cutL, Lib.join_one]
  | b :: l => by
    have ih := join_cutL c l
    by_cases h : b = c
    · subst h
      rw [cutL_hit]
      cases hc : cutL b l with
      | nil => exact absurd hc (cutL_ne b l)
      | cons q qs => rw [join_cons2, ← hc, ih]; simp
    · rw [cutL_miss h]
      cases hc : cutL c l with
      | nil => exact absurd hc (cutL_ne c l)
      | cons q qs =>
        rw [hc] at ih
        rw [prep, Lib.join_cons]
        rw [Lib.join_cons] at ih
        rw [List.append_assoc, ih]; rfl
theorem cutL_free (c : UInt8) : ∀ (p l : List UInt8), c ∉ p → cutL c (p ++ l) = prep p (cutL c l)
  | [], l, _ => by rw [List.nil_append, prep_nil (cutL_ne c l)]
  | b :: p, l, h => by
    have hb : b ≠ c := fun e => h (by simp [e])
    rw [List.cons_append, cutL_miss hb, cutL_free c p l (fun q => h (by simp [q])), prep_prep]; rfl
theorem cutL_join (c : UInt8) : ∀ ps : List (List UInt8), ps ≠ [] → (∀ p ∈ ps, c ∉ p) → cutL c (Lib.join ps [c]) = ps
  | [], h, _ => absurd rfl h
  | [p], _, h => by
    have := cutL_free c p [] (h p (by simp))
    rw [List.append_nil] at this
    rw [Lib.join_one, this]; simp [cutL, prep]
  | p :: q :: r, _, h => by
    rw [join_cons2, List.append_assoc, cutL_free c p _ (h p (by simp)), List.singleton_append, cutL_hit, cutL_join c (q :: r) (by simp) (fun x hx => h x (by simp [hx]))]
    simp [prep]

/-! ### Lists whose texts are read -/
/-- 'none' -/
def noneL : List UInt8 := [110, 111, 110, 101]
/-- the list xs has the text s -/
def Reads {α : Type} (f : α → List UInt8) (P : α → Prop) (s : List UInt8) (xs : List α) : Prop := xs.length ≤ 256 ∧ (∀ x ∈ xs, P x) ∧ s = textL (xs.map f)
/-- texts of members: of one length, free of commas, each of one member -/
structure Texts {α : Type} (f : α → List UInt8) (P : α → Prop) (m : Nat) : Prop where
  len : ∀ x, (f x).length = m
  free : ∀ x, (44 : UInt8) ∉ f x
  inj : ∀ x y, P x → P y → f x = f y → x = y
  big : 4 < m
section
variable {α : Type} {f : α → List UInt8} {P : α → Prop} {m : Nat}
theorem Reads.cut (T : Texts f P m) {s : List UInt8} {xs : List α} (h : Reads f P s xs) (hne : xs ≠ []) : cutL 44 s = xs.map f := by
  obtain ⟨_, _, rfl⟩ := h
  have hm : xs.map f ≠ [] := by simpa using hne
  rw [textL, if_neg hm]
  refine cutL_join 44 _ hm fun p hp => ?_
  obtain ⟨x, _, rfl⟩ := List.mem_map.1 hp
  exact T.free x
theorem Reads.none (T : Texts f P m) {s : List UInt8} {xs : List α} (h : Reads f P s xs) : s = noneL ↔ xs = [] := by
  constructor
  · intro hs
    by_cases hne : xs = []
    · exact hne
    · exfalso
      have hc := h.cut T hne
      rw [hs, show cutL 44 noneL = [noneL] by decide] at hc
      cases xs with
      | nil => exact hne rfl
      | cons x r =>
        have h1 : noneL = f x := by simp at hc; exact hc.1
        have h2 := T.len x
        rw [← h1] at h2
        have h3 : noneL.length = 4 := rfl
        have := T.big
        omega
  · rintro rfl
    obtain ⟨_, _, rfl⟩ := h
    rfl
theorem Reads.nil {s : List UInt8} (h : s = noneL) : Reads f P s [] := ⟨by simp, fun x hx => (List.not_mem_nil hx).elim, h⟩
theorem map_inj (T : Texts f P m) : ∀ xs ys : List α, (∀ x ∈ xs, P x) → (∀ y ∈ ys, P y) → xs.map f = ys.map f → xs = ys
  | [], [], _, _, _ => rfl
  | [], y :: r, _, _, h => by simp at h
  | x :: r, [], _, _, h => by simp at h
  | x :: r, y :: q, hx, hy, h => by
    simp only [List.map_cons, List.cons.injEq] at h
    rw [T.inj x y (hx x (by simp)) (hy y (by simp)) h.1, map_inj T r q (fun z hz => hx z (by simp [hz])) (fun z hz => hy z (by simp [hz])) h.2]
theorem Reads.unique (T : Texts f P m) {s : List UInt8} {xs ys : List α} (h : Reads f P s xs) (k : Reads f P s ys) : xs = ys := by
  by_cases hx : xs = []
  · rw [hx, (k.none T).1 ((h.none T).2 hx)]
  · by_cases hy : ys = []
    · exact absurd ((h.none T).1 ((k.none T).2 hy)) hx
    · refine map_inj T xs ys h.2.1 k.2.1 ?_
      rw [← h.cut T hx, ← k.cut T hy]
/-- all pieces are texts of members: so is the whole -/
theorem Reads.of_cut {s : List UInt8} {xs : List α} (h : cutL 44 s = xs.map f) (hl : xs.length ≤ 256) (hp : ∀ x ∈ xs, P x) : Reads f P s xs := by
  refine ⟨hl, hp, ?_⟩
  have hne : xs.map f ≠ [] := h ▸ cutL_ne 44 s
  rw [textL, if_neg hne, ← h, join_cutL]
end

/-! ### Hexadecimal digits read -/
/-- the value of a byte as a hexadecimal digit -/
def hexV (c : Nat) : Option Nat := if 48 ≤ c ∧ c ≤ 57 then some (c - 48) else if 97 ≤ c ∧ c ≤ 102 then some (c - 87) else none
theorem hexV_D : ∀ d : Fin 16, hexV (hexD d.1).toNat = some d.1 := by decide +kernel
theorem hexV_of : ∀ c : Fin 256, ∀ d, hexV c.1 = some d → d < 16 ∧ (hexD d).toNat = c.1 := by
  have : ∀ c : Fin 256, (hexV c.1).all (fun d => decide (d < 16 ∧ (hexD d).toNat = c.1)) = true := by decide +kernel
  intro c d h
  have := this c
  rw [h] at this
  simpa using this
theorem hexV_some {c : UInt8} {d : Nat} (h : hexV c.toNat = some d) : d < 16 ∧ hexD d = c := by
  obtain ⟨h1, h2⟩ := hexV_of ⟨c.toNat, c.toNat_lt⟩ d h
  exact ⟨h1, UInt8.toNat_inj.1 h2⟩
theorem hexD_inj {a b : Nat} (ha : a < 16) (hb : b < 16) (h : hexD a = hexD b) : a = b := by
  have h1 := hexV_D ⟨a, ha⟩
  have h2 := hexV_D ⟨b, hb⟩
  simp only at h1 h2
  rw [h] at h1
  exact Option.some.inj (h1.symm.trans h2)
theorem hexK_mem {n k : Nat} {c : UInt8} (h : c ∈ hexK n k) : ∃ d, d < 16 ∧ c = hexD d := by
  induction k generalizing n with
  | zero => cases h
  | succ k ih =>
    rw [hexK, List.mem_append] at h
    rcases h with h | h
    · exact ih h
    · exact ⟨n % 16, Nat.mod_lt _ (by decide), by simpa using h⟩
theorem hexK_free (n k : Nat) : (44 : UInt8) ∉ hexK n k := fun h => by
  obtain ⟨d, hd, he⟩ := hexK_mem h
  have h1 := hexV_D ⟨d, hd⟩
  simp only at h1
  rw [← he] at h1
  exact absurd h1 (by show hexV 44 ≠ some d; simp [hexV])
theorem hexK_inj : ∀ (k a b : Nat), a < 16 ^ k → b < 16 ^ k → hexK a k = hexK b k → a = b
  | 0, a, b, ha, hb, _ => by simp at ha hb; omega
  | k + 1, a, b, ha, hb, h => by
    rw [hexK, hexK] at h
    obtain ⟨h1, h2⟩ := List.append_inj h (by rw [hexK_length, hexK_length])
    have e1 := hexK_inj k (a / 16) (b / 16) (by rw [Nat.div_lt_iff_lt_mul (by decide), ← Nat.pow_succ]; exact ha) (by rw [Nat.div_lt_iff_lt_mul (by decide), ← Nat.pow_succ]; exact hb) h1
    have e2 := hexD_inj (Nat.mod_lt a (by decide)) (Nat.mod_lt b (by decide)) (by simpa using h2)
    omega
theorem hexK_snoc (n d k : Nat) (hd : d < 16) : hexK (16 * n + d) (k + 1) = hexK n k ++ [hexD d] := by
  rw [hexK, show (16 * n + d) / 16 = n by omega, show (16 * n + d) % 16 = d by omega]
theorem take_hex {l : List UInt8} {k n d : Nat} (h : l.take k = hexK n k) (hk : k < l.length) (hd : hexV (l[k]).toNat = some d) : l.take (k + 1) = hexK (16 * n + d) (k + 1) := by
  obtain ⟨h1, h2⟩ := hexV_some hd
  rw [List.take_succ_eq_append_getElem hk, h, hexK_snoc _ _ _ h1, h2]
theorem not_hex {l : List UInt8} {k : Nat} (hk : k < l.length) (hd : hexV (l[k]).toNat = none) (n j : Nat) : l ≠ hexK n j := fun e => by
  have hm : l[k] ∈ hexK n j := e ▸ List.getElem_mem hk
  obtain ⟨d, h1, h2⟩ := hexK_mem hm
  rw [h2, hexV_D ⟨d, h1⟩] at hd
  cases hd

/-- a number whose bits are its own: no other not-a-number than the one -/
def Own1 (x : Nat) : Prop := x < 4294967296 ∧ can .f32 x = x
def hex1 (x : Nat) : List UInt8 := hexK x 8
theorem texts1 : Texts hex1 Own1 8 := ⟨fun x => hexK_length x 8, fun x => hexK_free x 8, fun x y hx hy h => hexK_inj 8 x y (by simpa using hx.1) (by simpa using hy.1) h, by decide⟩
/-- the same of both parts -/
def Own2 (z : Nat × Nat) : Prop := Own1 z.1 ∧ Own1 z.2
def hex2 (z : Nat × Nat) : List UInt8 := hexK z.1 8 ++ hexK z.2 8
theorem texts2 : Texts hex2 Own2 16 := by
  refine ⟨fun x => by rw [hex2, List.length_append, hexK_length, hexK_length], fun x h => ?_, fun x y hx hy h => ?_, by decide⟩
  · rcases List.mem_append.1 h with h | h
    · exact hexK_free _ _ h
    · exact hexK_free _ _ h
  · obtain ⟨h1, h2⟩ := List.append_inj h (by rw [hexK_length, hexK_length])
    exact Prod.ext (hexK_inj 8 _ _ (by simpa using hx.1.1) (by simpa using hy.1.1) h1) (hexK_inj 8 _ _ (by simpa using hx.2.1) (by simpa using hy.2.1) h2)
theorem can_idem (x : Nat) : can .f32 (can .f32 x) = can .f32 x := can_can .f32 x
end Go.Fl

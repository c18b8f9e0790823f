/- The base of the desk's texts: small functions on numbers, complex numbers and spots; marks on lists. -/
import Derived.Test.YtlpgaekkhlinhaaGreatDoorOCx
import Derived.Test.YtlpgaekkhlinhaaGreatDoorOMem
import Derived.Test.YtlpgaekkhlinhaaGreatDoorSprd
import Derived.Deep.OwnRows
namespace Go.Fl
open Go.RowKit
/-- from w to w' only cells of blocks in S turned -/
structure Only (S : Nat → Prop) (w w' : World) : Prop where
  os : w'.os = w.os
  tape : w'.tape = w.tape
  output : w'.output = w.output
  size : w'.heap.size = w.heap.size
  block : ∀ c, ¬ S c → w'.heap[c]? = w.heap[c]?
  room : ∀ c n, Room w c n → Room w' c n
theorem Only.refl (S : Nat → Prop) (w : World) : Only S w w := ⟨rfl, rfl, rfl, rfl, fun _ _ => rfl, fun _ _ h => h⟩
theorem Only.trans {S : Nat → Prop} {a b c : World} (h : Only S a b) (k : Only S b c) : Only S a c :=
  ⟨k.os.trans h.os, k.tape.trans h.tape, k.output.trans h.output, k.size.trans h.size, fun i hi => (k.block i hi).trans (h.block i hi), fun i n hr => k.room i n (h.room i n hr)⟩
theorem Only.mono {S S' : Nat → Prop} {w w' : World} (h : Only S w w') (hs : ∀ c, S c → S' c) : Only S' w w' :=
  ⟨h.os, h.tape, h.output, h.size, fun c hc => h.block c (fun q => hc (hs c q)), h.room⟩
theorem Only.set {S : Nat → Prop} {a w : World} (h : Only S a w) (b i : Nat) (v : Value) (hb : S b) : Only S a (w.setCell ⟨b, i, none⟩ v) :=
  h.trans ⟨rfl, rfl, rfl, by simp, fun c hc => RowKit.Below.heap_setCell _ _ _ _ (fun e => hc (e ▸ hb)), fun c n hr => hr.set _ _ _⟩
theorem Only.drewN {S : Nat → Prop} {a w : World} (h : Only S a w) (n : Nat) : Only S a (w.drewN n) := ⟨h.os, h.tape, h.output, h.size, h.block, h.room⟩
theorem Only.far {S : Nat → Prop} {w w' : World} (h : Only S w w') {lo hi : Nat} (hs : ∀ c, S c → c < lo ∨ hi ≤ c) : Far lo hi w w' := fun c h1 h2 => h.block c (fun q => by have := hs c q; omega)
theorem Only.below {S : Nat → Prop} {w w' : World} (h : Only S w w') {B : Nat} (hs : ∀ c, S c → B ≤ c) : RowKit.Below B w w' :=
  ⟨h.os, h.tape, h.output, Nat.le_of_eq h.size.symm, fun c hc => h.block c (fun q => by have := hs c q; omega)⟩
theorem Only.cell {S : Nat → Prop} {w w' : World} (h : Only S w w') {b o : Nat} (hb : ¬ S b) : w'.cell? ⟨b, o, none⟩ = w.cell? ⟨b, o, none⟩ := World.cell?_of_block (w := w) (a := ⟨b, o, none⟩) (h.block b hb)
/-- from w to w' only blocks from lo up to hi turned, and new ones came -/
structure Kept (lo hi : Nat) (w w' : World) : Prop where
  os : w'.os = w.os
  tape : w'.tape = w.tape
  output : w'.output = w.output
  size : w.heap.size ≤ w'.heap.size
  block : ∀ c, c < w.heap.size → ¬ (lo ≤ c ∧ c < hi) → w'.heap[c]? = w.heap[c]?
  room : ∀ c n, c < w.heap.size → Room w c n → Room w' c n
theorem Room.same {w w' : World} {c n : Nat} (h : w'.heap[c]? = w.heap[c]?) (hr : Room w c n) : Room w' c n := hr.far (lo := c) (hi := c + 1) (fun _ h1 h2 => (Nat.le_antisymm (Nat.lt_succ_iff.1 h2) h1) ▸ h) (Nat.le_refl _) (Nat.lt_succ_self _)
theorem Kept.of_below {w w' : World} (h : RowKit.Below w.heap.size w w') (lo hi : Nat) : Kept lo hi w w' := ⟨h.os, h.tape, h.output, h.size, fun c hc _ => h.block c hc, fun c _ hc hr => Room.same (h.block c hc) hr⟩
theorem Kept.trans {lo hi : Nat} {a b c : World} (h : Kept lo hi a b) (k : Kept lo hi b c) : Kept lo hi a c :=
  ⟨k.os.trans h.os, k.tape.trans h.tape, k.output.trans h.output, Nat.le_trans h.size k.size, fun i h1 h2 => (k.block i (Nat.lt_of_lt_of_le h1 h.size) h2).trans (h.block i h1 h2), fun i n h1 hr => k.room i n (Nat.lt_of_lt_of_le h1 h.size) (h.room i n h1 hr)⟩
theorem Only.kept {S : Nat → Prop} {w w' : World} (h : Only S w w') {lo hi : Nat} (hs : ∀ c, S c → lo ≤ c ∧ c < hi) : Kept lo hi w w' :=
  ⟨h.os, h.tape, h.output, Nat.le_of_eq h.size.symm, fun c _ hc => h.block c fun q => hc (hs c q), fun c n _ hr => h.room c n hr⟩
theorem Kept.mono {lo hi lo' hi' : Nat} {w w' : World} (h : Kept lo hi w w') (h1 : lo' ≤ lo) (h2 : hi ≤ hi') : Kept lo' hi' w w' := ⟨h.os, h.tape, h.output, h.size, fun c hc hn => h.block c hc (by omega), h.room⟩
theorem Kept.far {lo hi a b : Nat} {w w' : World} (h : Kept lo hi w w') (hb : b ≤ w.heap.size) (hd : b ≤ lo ∨ hi ≤ a) : Far a b w w' := fun c h1 h2 => h.block c (by omega) (by omega)
theorem Kept.below {lo hi B : Nat} {w w' : World} (h : Kept lo hi w w') (hb : B ≤ w.heap.size) (hd : B ≤ lo) : RowKit.Below B w w' :=
  ⟨h.os, h.tape, h.output, h.size, fun c hc => h.block c (by omega) (by omega)⟩
/-- n marks from k on -/
def mL (k n : Nat) : List Cx := (List.range n).map fun i => (mX (k + i), one32)
theorem mL_len (k n : Nat) : (mL k n).length = n := by simp [mL]
theorem mL_at {k n i : Nat} (h : i < n) : cAt (mL k n) i = (mX (k + i), one32) := by simp [mL, cAt, h]
/-- the bits stand for the spot p -/
def IsSp (x y z : Nat) (p : Sp) : Prop := (can .f32 x, can .f32 y, can .f32 z) = p
theorem IsSp.of {x y z : Nat} {p : Sp} (h1 : F32 x p.1) (h2 : F32 y p.2.1) (h3 : F32 z p.2.2) : IsSp x y z p := Prod.ext h1 (Prod.ext h2 h3)
theorem IsSp.f1 {x y z : Nat} {p : Sp} (h : IsSp x y z p) : F32 x p.1 := by unfold IsSp at h; subst h; rfl
theorem IsSp.f2 {x y z : Nat} {p : Sp} (h : IsSp x y z p) : F32 y p.2.1 := by unfold IsSp at h; subst h; rfl
theorem IsSp.f3 {x y z : Nat} {p : Sp} (h : IsSp x y z p) : F32 z p.2.2 := by unfold IsSp at h; subst h; rfl
/-- all three parts are finite -/
def finSp (p : Sp) : Bool := fin p.1 && fin p.2.1 && fin p.2.2
/-- from lo to hi -/
def inB (x lo hi : Int) : Bool := decide (lo ≤ x) && decide (x ≤ hi)
/-- the cells cs hold the spots qs -/
def SpL (cs : List Value) (qs : List Sp) : Prop := ∀ i, i < qs.length → ∃ x y z, cs[i * 3]? = some (.float .f32 x) ∧ cs[i * 3 + 1]? = some (.float .f32 y) ∧ cs[i * 3 + 2]? = some (.float .f32 z) ∧ IsSp x y z (pAt qs i)
theorem SpL.nil : SpL [] [] := fun _ h => absurd h (Nat.not_lt_zero _)
theorem SpL.snoc {cs : List Value} {qs : List Sp} (h : SpL cs qs) (hl : cs.length = qs.length * 3) {x y z : Nat} {q : Sp} (hq : IsSp x y z q) : SpL (cs ++ [.float .f32 x, .float .f32 y, .float .f32 z]) (qs ++ [q]) := fun i hi => by
  by_cases h1 : i < qs.length
  · obtain ⟨a, b, c, e1, e2, e3, e4⟩ := h i h1
    refine ⟨a, b, c, ?_, ?_, ?_, ?_⟩
    · rw [List.getElem?_append_left (by omega)]; exact e1
    · rw [List.getElem?_append_left (by omega)]; exact e2
    · rw [List.getElem?_append_left (by omega)]; exact e3
    · have : pAt (qs ++ [q]) i = pAt qs i := by simp [pAt, List.getElem?_append_left h1]
      rw [this]; exact e4
  · have hiq : i = qs.length := by simp at hi; omega
    subst hiq
    refine ⟨x, y, z, ?_, ?_, ?_, ?_⟩
    · rw [List.getElem?_append_right (by omega), hl]; simp
    · rw [List.getElem?_append_right (by omega), hl]; simp
    · rw [List.getElem?_append_right (by omega), hl]; simp
    · have : pAt (qs ++ [q]) qs.length = q := by simp [pAt]
      rw [this]; exact hq
theorem ORow.spots {w : World} {e : TypeId} {b cap : Nat} {cs : List Value} {qs : List Sp} (h : ORow w e 3 b cap qs.length cs) (hq : SpL cs qs) : SlP w b (b + 1) (some ⟨b, 0, none⟩) qs := fun _ => by
  refine ⟨b, 0, rfl, Nat.le_refl _, Nat.lt_succ_self _, fun i hi => ?_⟩
  obtain ⟨x, y, z, e1, e2, e3, e4⟩ := hq i hi
  refine ⟨x, y, z, ?_, ?_, ?_, e4.f1, e4.f2, e4.f3⟩
  · rw [Nat.zero_add, h.cell _ (by omega)]; exact e1
  · rw [Nat.zero_add, h.cell _ (by omega)]; exact e2
  · rw [Nat.zero_add, h.cell _ (by omega)]; exact e3
end Go.Fl
namespace Go.Proofs.YtlpgaekkhlinhaaGreatDoor
open Go.RowKit Go.Fl

def Goes (g : Nat) : Prop := ∀ args w, Sem.run Tryz.prog (callFunc g args) w = .ok (.enter g args) w
set_option maxHeartbeats 400000 in
set_option maxRecDepth 100000 in
theorem indexFunc (p : Nat → Bool) (g : Nat) (hg : Goes g) (hf : ∀ x w, Calls Tryz.prog g #[.float .f32 x] w fun e w' => e = .returned (.bool (p x)) ∧ ∃ n, w' = w.drewN n)
    (xs : List Nat) (v : Value) (w : World) (hs : SlF w v xs) :
    Calls Tryz.prog 141 #[v, .func (.func g) #[] #[]] w fun e w' => e = .returned (.int .i64 (idx p xs)) ∧ ∃ n, w' = w.drewN n := by
  have HF := Lib.hid hf
  clear hf
  have hgo : ∀ args w, Sem.run Tryz.prog (callFunc g args) w = .ok (.enter g args) w := hg
  rcases hs with ⟨rfl, rfl⟩ | ⟨b, off, cap, rfl, hm, hc⟩
  · go_enter Tryz.func141, Tryz.ntmps141
    go_wp2_with fail
    refine wp_loop_rounds 1 ?_
    rw [rounds_succ]
    go_wp2_with fail
    go_ret
    exact ⟨rfl, 0, rfl⟩
  go_enter Tryz.func141, Tryz.ntmps141
  go_wp2_with fail
  go_loopw [8] (fun i wr => ∃ k q : Nat, k ≤ xs.length ∧ i = .int .i64 k ∧ wr = w.drewN q ∧ (xs.take k).any p = false) (fun i _ => xs.length - (intOf i).toNat)
  case atStart => exact ⟨0, 0, by omega, rfl, rfl, rfl⟩
  case round =>
    obtain ⟨k, q, hk, rfl, rfl, hn⟩ := hrel
    by_cases hlt : k < xs.length
    · have hcell := hc k hlt
      have HN := Lib.hid hn
      clear hn hc
      go_wp2_with fail
      refine (HF.out _ _).mono ?_
      rintro e w' ⟨rfl, n, rfl⟩
      go_wp2_with fail
      · go_ret
        exact ⟨ret_int (idx_some hlt HN.out ‹_›).symm, _, rfl⟩
      · go_roundw
        case rel => exact ⟨k + 1, _, by omega, by go_num, rfl, any_snoc hlt HN.out ‹_›⟩
        case measure => simp [intOf]; omega
    · have HN := Lib.hid hn
      clear hn hc
      go_wp2_with fail
      go_ret
      have e : xs.take k = xs := List.take_of_length_le (by omega)
      exact ⟨ret_int (idx_none (by rw [← e]; exact HN.out)).symm, _, rfl⟩
set_option maxRecDepth 100000 in
theorem containsFunc (p : Nat → Bool) (g : Nat) (hg : Goes g) (hf : ∀ x w, Calls Tryz.prog g #[.float .f32 x] w fun e w' => e = .returned (.bool (p x)) ∧ ∃ n, w' = w.drewN n)
    (xs : List Nat) (v : Value) (w : World) (hs : SlF w v xs) :
    Calls Tryz.prog 109 #[v, .func (.func g) #[] #[]] w fun e w' => e = .returned (.bool (xs.any p)) ∧ ∃ n, w' = w.drewN n := by
  have HF := Lib.hid hf
  have HS := Lib.hid hs
  clear hf hs
  go_enter Tryz.func109, Tryz.ntmps109
  go_wp2_with fail
  refine (indexFunc p g hg HF.out xs v _ HS.out).mono ?_
  rintro e w' ⟨rfl, n, rfl⟩
  go_wp2_with fail
  go_ret
  exact ⟨ret_bool (idx_ge p xs), _, rfl⟩
set_option maxRecDepth 100000 in
theorem implIsFinite (x : Nat) (w : World) : Calls Tryz.prog 111 #[.float .f32 x] w fun e w' => e = .returned (.bool (fin (can .f32 x))) ∧ ∃ n, w' = w.drewN n := by
  go_enter Tryz.func111, Tryz.ntmps111
  go_wp2_with fail
  go_ret
  exact ⟨ret_bool (F32.eq (F32.sub (F32.mk x) (F32.mk x)) F32.zero), _, rfl⟩
set_option maxRecDepth 100000 in
theorem isFiniteComplex (z : Cx) (w : World) : Calls Tryz.prog 108 #[cV z] w fun e w' => e = .returned (.bool (okPt z)) ∧ ∃ n, w' = w.drewN n := by
  unfold cV okPt
  go_enter Tryz.func108, Tryz.ntmps108
  cases h1 : fin (can .f32 z.1)
  · go_wp2_with (go_at_call 111; refine (implIsFinite _ _).mono ?_; rintro e w' ⟨rfl, n, rfl⟩)
    go_ret
    exact ⟨rfl, _, rfl⟩
  · go_wp2_with (go_at_call 111; refine (implIsFinite _ _).mono ?_; rintro e w' ⟨rfl, n, rfl⟩)
    go_ret
    refine ⟨?_, (by (try simp only [World.drewN_drewN]); exact ⟨_, rfl⟩)⟩
    simp [*]
set_option maxRecDepth 100000 in
theorem arePoints1 (z : Cx) (w : World) : Calls Tryz.prog 107 #[cV z] w fun e w' => e = .returned (.bool (!okPt z)) ∧ ∃ n, w' = w.drewN n := by
  go_enter Tryz.func107, Tryz.ntmps107
  go_wp2_with (go_at_call 108; refine (isFiniteComplex _ _).mono ?_; rintro e w' ⟨rfl, n, rfl⟩)
  go_ret
  exact ⟨rfl, _, rfl⟩
theorem any_noP {α : Type} (p : α → Bool) (xs : List α) : (!xs.any fun x => !p x) = xs.all p := by
  induction xs with
  | nil => rfl
  | cons x xs ih => simp only [List.any_cons, List.all_cons, Bool.not_or, Bool.not_not, ih]
set_option maxHeartbeats 1000000 in
set_option maxRecDepth 100000 in
theorem indexC (lo hi : Nat) (ao : Option Addr) (c : Nat) (l : List Cx) (hn : l.length ≤ 1048576) (w : World) (hs : SlC w lo hi ao l) :
    Calls Tryz.prog 140 #[.slice ao l.length c, .func (.func 107) #[] #[]] w fun e w' => e = .returned (.int .i64 (idx (fun z => !okPt z) l)) ∧ ∃ n, w' = w.drewN n := by
  have HS := Lib.hid hs
  clear hs
  have hgo : ∀ args w, Sem.run Tryz.prog (callFunc 107 args) w = .ok (.enter 107 args) w := fun _ _ => rfl
  go_enter Tryz.func140, Tryz.ntmps140
  go_wp2_with fail
  go_loopw [5, 8] (fun _ i wr => ∃ k q : Nat, k ≤ l.length ∧ i = .int .i64 k ∧ wr = w.drewN q ∧ Hid ((l.take k).any (fun z => !okPt z) = false)) (fun _ i _ => l.length - (intOf i).toNat)
  case atStart => exact ⟨0, 0, by omega, rfl, rfl, rfl⟩
  case round =>
    obtain ⟨k, q, hk, rfl, rfl, HA⟩ := hrel
    by_cases hlt : k < l.length
    · obtain ⟨b, rfl, _, _, hc⟩ := HS.out (by omega)
      have c1 := hc k hlt
      clear hc
      have k0 : (0 : Int) ≤ (k : Int) := by omega
      have k1 : (k : Int) < (l.length : Int) := by omega
      have hck : cAt l k = l[k] := by simp [cAt, hlt]
      have HCK := Lib.hid hck
      clear hck
      cases hp : okPt (cAt l k)
      · have HX := Lib.hid (idx_some hlt HA.out (show (!okPt l[k]) = true by rw [← HCK.out, hp]; rfl))
        go_wp2_with fail
        refine (arePoints1 _ _).mono ?_
        rintro e w' ⟨rfl, n, rfl⟩
        rw [hp]
        go_wp2_with fail
        go_ret
        exact ⟨ret_int HX.out.symm, (by (try simp only [World.drewN_drewN]); exact ⟨_, rfl⟩)⟩
      · have HY := Lib.hid (any_snoc hlt HA.out (show (!okPt l[k]) = false by rw [← HCK.out, hp]; rfl))
        go_wp2_with fail
        refine (arePoints1 _ _).mono ?_
        rintro e w' ⟨rfl, n, rfl⟩
        rw [hp]
        go_wp2_with fail
        go_roundw
        case rel => exact ⟨k + 1, _, by omega, by go_num, rfl, HY⟩
        case measure => simp [intOf]; omega
    · have e : l.take k = l := List.take_of_length_le (by omega)
      have HX := Lib.hid (idx_none (by have := HA.out; rw [e] at this; exact this))
      go_wp2_with fail
      go_ret
      exact ⟨ret_int HX.out.symm, _, rfl⟩
set_option maxRecDepth 100000 in
theorem arePoints (lo hi : Nat) (ao : Option Addr) (c : Nat) (l : List Cx) (hn : l.length ≤ 1048576) (w : World) (hs : SlC w lo hi ao l) :
    Calls Tryz.prog 79 #[.slice ao l.length c] w fun e w' => e = .returned (.bool (l.all okPt)) ∧ ∃ n, w' = w.drewN n := by
  have HS := Lib.hid hs
  clear hs
  have hcf : Calls Tryz.prog 106 #[.slice ao l.length c, .func (.func 107) #[] #[]] w fun e w' => e = .returned (.bool (l.any (fun z => !okPt z))) ∧ ∃ n, w' = w.drewN n := by
    go_enter Tryz.func106, Tryz.ntmps106
    go_wp2_with fail
    refine (indexC lo hi ao c l hn _ HS.out).mono ?_
    rintro e w' ⟨rfl, n, rfl⟩
    go_wp2_with fail
    go_ret
    exact ⟨ret_bool (idx_ge _ l), _, rfl⟩
  have HCF := Lib.hid hcf
  clear hcf
  go_enter Tryz.func79, Tryz.ntmps79
  go_wp2_with fail
  refine HCF.out.mono ?_
  rintro e w' ⟨rfl, n, rfl⟩
  go_wp2_with fail
  go_ret
  exact ⟨ret_bool (any_noP _ _), _, rfl⟩
set_option maxRecDepth 100000 in
theorem l02Above (x : Nat) (w : World) : Calls Tryz.prog 97 #[.float .f32 x] w fun e w' => e = .returned (.bool (above (can .f32 x))) ∧ ∃ n, w' = w.drewN n := by
  go_enter Tryz.func97, Tryz.ntmps97
  go_wp2_with (go_at_call 129; refine (l01Finite _ _).mono ?_; rintro e w' ⟨rfl, n, rfl⟩)
  all_goals
    go_ret
    exact ⟨ret_bool (by simp [above, ← F32.gt (F32.mk x) F32.zero, *]), _, rfl⟩
set_option maxRecDepth 100000 in
theorem areMore1 (x : Nat) (w : World) : Calls Tryz.prog 110 #[.float .f32 x] w fun e w' => e = .returned (.bool (!above (can .f32 x))) ∧ ∃ n, w' = w.drewN n := by
  go_enter Tryz.func110, Tryz.ntmps110
  go_wp2_with (go_at_call 111; refine (implIsFinite _ _).mono ?_; rintro e w' ⟨rfl, n, rfl⟩)
  all_goals
    go_ret
    exact ⟨ret_bool (by simp [above, ← F32.gt (F32.mk x) F32.zero, *]), _, rfl⟩
set_option maxRecDepth 100000 in
theorem areFinite1 (x : Nat) (w : World) : Calls Tryz.prog 152 #[.float .f32 x] w fun e w' => e = .returned (.bool (!fin (can .f32 x))) ∧ ∃ n, w' = w.drewN n := by
  go_enter Tryz.func152, Tryz.ntmps152
  go_wp2_with (go_at_call 111; refine (implIsFinite _ _).mono ?_; rintro e w' ⟨rfl, n, rfl⟩)
  all_goals
    go_ret
    exact ⟨rfl, _, rfl⟩
theorem any_not {α : Type} (p : α → Bool) (xs : List α) : (!xs.any fun x => !p x) = xs.all p := by
  induction xs with
  | nil => rfl
  | cons x xs ih => simp only [List.any_cons, List.all_cons, Bool.not_or, Bool.not_not, ih]
set_option maxRecDepth 100000 in
theorem areMore (xs : List Nat) (v : Value) (w : World) (hs : SlF w v xs) :
    Calls Tryz.prog 80 #[v] w fun e w' => e = .returned (.bool (xs.all fun x => above (can .f32 x))) ∧ ∃ n, w' = w.drewN n := by
  have HS := Lib.hid hs
  clear hs
  go_enter Tryz.func80, Tryz.ntmps80
  go_wp2_with fail
  refine (containsFunc _ _ (fun _ _ => rfl) (fun x w => areMore1 x w) xs v _ HS.out).mono ?_
  rintro e w' ⟨rfl, n, rfl⟩
  go_wp2_with fail
  go_ret
  exact ⟨ret_bool (any_not _ _), _, rfl⟩
set_option maxRecDepth 100000 in
theorem areFinite (xs : List Nat) (v : Value) (w : World) (hs : SlF w v xs) :
    Calls Tryz.prog 127 #[v] w fun e w' => e = .returned (.bool (xs.all fun x => fin (can .f32 x))) ∧ ∃ n, w' = w.drewN n := by
  have HS := Lib.hid hs
  clear hs
  go_enter Tryz.func127, Tryz.ntmps127
  go_wp2_with fail
  refine (containsFunc _ _ (fun _ _ => rfl) (fun x w => areFinite1 x w) xs v _ HS.out).mono ?_
  rintro e w' ⟨rfl, n, rfl⟩
  go_wp2_with fail
  go_ret
  exact ⟨ret_bool (any_not _ _), _, rfl⟩
/-- the value of a spot -/
def spV (x y z : Nat) : Value := .agg #[.float .f32 x, .float .f32 y, .float .f32 z]
set_option maxRecDepth 100000 in
theorem within (x lo hi : Int) (w : World) : Calls Tryz.prog 92 #[.int .i64 x, .int .i64 lo, .int .i64 hi] w fun e w' => e = .returned (.bool (inB x lo hi)) ∧ w' = w := by
  by_cases h1 : lo ≤ x
  all_goals by_cases h2 : x ≤ hi
  all_goals
    go_enter Tryz.func92, Tryz.ntmps92
    go_wp2_with fail
    go_ret
    exact ⟨ret_bool (by simp [inB, h1, h2]), rfl⟩
set_option maxHeartbeats 1000000 in
set_option maxRecDepth 100000 in
theorem isSpot (x y z : Nat) (w : World) : Calls Tryz.prog 116 #[spV x y z] w fun e w' => e = .returned (.bool (finSp (can .f32 x, can .f32 y, can .f32 z))) ∧ Below w.heap.size w w' := by
  unfold spV
  go_enter Tryz.func116, Tryz.ntmps116
  go_wp2_with (go_at_call 127; refine (areFinite [x, y, z] _ _ (slF_new _ [x, y, z] _ _ _ (by simp) (by simp) _ rfl rfl)).mono ?_; rintro e w' ⟨rfl, n, rfl⟩)
  go_ret
  refine ⟨ret_bool (by simp [finSp, List.all_cons, Bool.and_assoc]), by (repeat (first | exact Below.refl _ _ | assumption | refine below_dr ?_ _ | refine Below.alloc ?_ (by first | omega | (simp; done) | (simp; omega)) _ | refine Below.setCell ?_ (by first | omega | (simp; done) | (simp; omega)) _ | refine Below.trans ?_ (Below.mono (by assumption) (by first | omega | (simp; done) | (simp; omega)))))⟩
set_option maxRecDepth 100000 in
theorem areSpots1 (x y z : Nat) (w : World) : Calls Tryz.prog 115 #[spV x y z] w fun e w' => e = .returned (.bool (!finSp (can .f32 x, can .f32 y, can .f32 z))) ∧ Below w.heap.size w w' := by
  have hs : ∀ w, Calls Tryz.prog 116 #[.agg #[.float .f32 x, .float .f32 y, .float .f32 z]] w fun e w' => e = .returned (.bool (finSp (can .f32 x, can .f32 y, can .f32 z))) ∧ Below w.heap.size w w' := isSpot x y z
  have HS := Lib.hid hs
  clear hs
  unfold spV
  go_enter Tryz.func115, Tryz.ntmps115
  go_wp2_with (go_at_call 116; refine (HS.out _).mono ?_; rintro e w' ⟨rfl, hb⟩)
  go_ret
  exact ⟨rfl, Below.trans (by (repeat (first | exact Below.refl _ _ | assumption | refine below_dr ?_ _ | refine Below.alloc ?_ (by first | omega | (simp; done) | (simp; omega)) _ | refine Below.setCell ?_ (by first | omega | (simp; done) | (simp; omega)) _ | refine Below.trans ?_ (Below.mono (by assumption) (by first | omega | (simp; done) | (simp; omega)))))) (hb.mono (by simp))⟩
set_option maxHeartbeats 1000000 in
set_option maxRecDepth 100000 in
theorem indexSpots (lo hi : Nat) (ao : Option Addr) (c : Nat) (ps : List Sp) (hn : ps.length ≤ 1048576) (w : World) (hs : SlP w lo hi ao ps) (hh : hi ≤ w.heap.size) :
    Calls Tryz.prog 143 #[.slice ao ps.length c, .func (.func 115) #[] #[]] w fun e w' => e = .returned (.int .i64 (idx (fun p => !finSp p) ps)) ∧ Below w.heap.size w w' := by
  have HS := Lib.hid hs
  clear hs
  go_enter Tryz.func143, Tryz.ntmps143
  go_wp2_with fail
  go_loopw [8] (fun i wr => ∃ k : Nat, k ≤ ps.length ∧ i = .int .i64 k ∧ Hid (Below w.heap.size w wr) ∧ Hid ((ps.take k).any (fun p => !finSp p) = false)) (fun i _ => ps.length - (intOf i).toNat)
  case atStart => exact ⟨0, by omega, rfl, Below.refl _ _, rfl⟩
  case round =>
    obtain ⟨k, hk, rfl, HW, HA⟩ := hrel
    by_cases hlt : k < ps.length
    · obtain ⟨b1, o1, rfl, _, q1, hc1⟩ := HS.out.far (Far.below HW.out hh) (by omega)
      obtain ⟨x, y, z, c1, c2, c3, f1, f2, f3⟩ := hc1 k hlt
      have hp : (can .f32 x, can .f32 y, can .f32 z) = ps[k] := by
        have : ps[k] = pAt ps k := by simp [pAt, hlt]
        rw [show can .f32 x = _ from f1, show can .f32 y = _ from f2, show can .f32 z = _ from f3, this]
      have HP := Lib.hid hp
      have HI := Lib.hid (idx_some (p := fun p => !finSp p) hlt HA.out)
      have HN := Lib.hid (any_snoc (p := fun p => !finSp p) hlt HA.out)
      clear hc1 f1 f2 f3 hp
      have k0 : (0 : Int) ≤ (k : Int) := by omega
      have k1 : (k : Int) < (ps.length : Int) := by omega
      cases hfin : finSp ps[k]
      all_goals
        have HF := Lib.hid hfin
        clear hfin
        go_wp2_with (go_at_call 115; refine (areSpots1 x y z _).mono ?_; rintro e w3 ⟨rfl, hb3⟩; rw [HP.out, HF.out])
      · go_ret
        exact ⟨ret_int (HI.out (by simp [HF.out])).symm, HW.out.trans (hb3.mono HW.out.size)⟩
      · go_roundw
        case rel => exact ⟨k + 1, by omega, by go_num, HW.out.trans (hb3.mono HW.out.size), HN.out (by simp [HF.out])⟩
        case measure => simp [intOf]; omega
    · go_wp2_with fail
      go_ret
      refine ⟨ret_int ?_, HW.out⟩
      have := HA.out
      rw [List.take_of_length_le (by omega)] at this
      exact (idx_none this).symm
set_option maxRecDepth 100000 in
theorem containsSpots (lo hi : Nat) (ao : Option Addr) (c : Nat) (ps : List Sp) (hn : ps.length ≤ 1048576) (w : World) (hs : SlP w lo hi ao ps) (hh : hi ≤ w.heap.size) :
    Calls Tryz.prog 114 #[.slice ao ps.length c, .func (.func 115) #[] #[]] w fun e w' => e = .returned (.bool (ps.any fun p => !finSp p)) ∧ Below w.heap.size w w' := by
  have HS := Lib.hid hs
  clear hs
  go_enter Tryz.func114, Tryz.ntmps114
  go_wp2_with fail
  refine (indexSpots lo hi ao c ps hn _ HS.out hh).mono ?_
  rintro e w' ⟨rfl, hb⟩
  go_wp2_with fail
  go_ret
  exact ⟨ret_bool (idx_ge _ ps), hb⟩
set_option maxRecDepth 100000 in
theorem areSpots (lo hi : Nat) (ao : Option Addr) (c : Nat) (ps : List Sp) (hn : ps.length ≤ 1048576) (w : World) (hs : SlP w lo hi ao ps) (hh : hi ≤ w.heap.size) :
    Calls Tryz.prog 83 #[.slice ao ps.length c] w fun e w' => e = .returned (.bool (ps.all finSp)) ∧ Below w.heap.size w w' := by
  have HS := Lib.hid hs
  clear hs
  go_enter Tryz.func83, Tryz.ntmps83
  go_wp2_with fail
  refine (containsSpots lo hi ao c ps hn _ HS.out hh).mono ?_
  rintro e w' ⟨rfl, hb⟩
  go_wp2_with fail
  go_ret
  exact ⟨ret_bool (any_not _ _), hb⟩
set_option maxHeartbeats 1000000 in
set_option maxRecDepth 100000 in
theorem markC1 (b n c k : Nat) (hk : k + n < 2100) (w : World) (hr : Room w b n) :
    Calls Tryz.prog 28 #[.slice (some ⟨b, 0, none⟩) n c, .int .i64 (k : Nat)] w fun e w' => e = .returned (.int .i64 ((k + n : Nat) : Int)) ∧ SlC w' b (b + 1) (some ⟨b, 0, none⟩) (mL k n) ∧ Only (fun c => c = b) w w' := by
  have HR := Lib.hid hr
  clear hr
  go_enter Tryz.func28, Tryz.ntmps28
  go_wp2_with fail
  go_loopw [1, 5] (fun kk i wr => ∃ j kj : Nat, j ≤ n ∧ Hid (kj = k + j) ∧ i = .int .i64 j ∧ kk = .int .i64 kj ∧ Hid (Only (fun c => c = b) w wr) ∧ Hid (∀ t : Nat, t < j → wr.cell? ⟨b, t, none⟩ = some (cV (mX (k + t), one32)))) (fun _ i _ => n - (intOf i).toNat)
  case atStart => exact ⟨0, k, by omega, rfl, rfl, rfl, Only.refl _ _, fun t ht => absurd ht (Nat.not_lt_zero _)⟩
  case round =>
    obtain ⟨j, kj, hj, HK, rfl, rfl, HO, HC⟩ := hrel
    have hkj := HK.out
    by_cases hlt : j < n
    · have hroom := HO.out.room _ _ HR.out
      obtain ⟨v, c1⟩ := hroom.cell hlt
      have c2 := hroom.free j
      obtain ⟨m1, m2, m3⟩ := mOk_at (k := kj) (by omega)
      have k0 : (0 : Int) ≤ (j : Int) := by omega
      have k1 : (j : Int) < (n : Int) := by omega
      have k2 : (kj : Int) < 2100 := by omega
      clear hroom hkj
      have HV := Lib.hid c1
      go_wp2_with fail
      go_roundw
      case rel =>
        have hkj := HK.out
        refine ⟨j + 1, kj + 1, by omega, Lib.hid (by omega), by go_num, by go_num, HO.out.set _ _ _ rfl, fun t ht => ?_⟩
        by_cases ht2 : t = j
        · subst ht2
          rw [← hkj]
          exact World.cell?_setCell_same _ _ _ HV.out
        · rw [World.cell?_setCell_other _ _ _ _ (by first | omega | (simp; done) | (simp; omega))]
          exact HC.out t (by omega)
      case measure => simp [intOf]; omega
    · have hjn : j = n := by omega
      subst hjn
      subst hkj
      go_wp2_with fail
      go_ret
      refine ⟨rfl, fun _ => ⟨b, rfl, Nat.le_refl _, Nat.lt_succ_self _, fun i hi => ?_⟩, HO.out⟩
      rw [mL_len] at hi
      rw [HC.out i hi, mL_at hi]
set_option maxHeartbeats 1000000 in
set_option maxRecDepth 100000 in
theorem heldC1 (lo hi : Nat) (a : Option Addr) (n c k : Nat) (hk : k + n < 2100) (w : World) (hs : SlC w lo hi a (mL k n)) :
    Calls Tryz.prog 30 #[.slice a n c, .int .i64 (k : Nat)] w fun e w' => e = .returned (.int .i64 ((k + n : Nat) : Int)) ∧ w' = w := by
  have HS := Lib.hid hs
  clear hs
  go_enter Tryz.func30, Tryz.ntmps30
  go_wp2_with fail
  go_loopw [1, 5] (fun kk i wr => ∃ j kj : Nat, j ≤ n ∧ Hid (kj = k + j) ∧ i = .int .i64 j ∧ kk = .int .i64 kj ∧ wr = w) (fun _ i _ => n - (intOf i).toNat)
  case atStart => exact ⟨0, k, by omega, rfl, rfl, rfl, rfl⟩
  case round =>
    obtain ⟨j, kj, hj, HK, rfl, rfl, rfl⟩ := hrel
    have hkj := HK.out
    by_cases hlt : j < n
    · obtain ⟨b1, rfl, _, _, hc⟩ := HS.out (by rw [mL_len]; omega)
      have c1 := hc j (by rw [mL_len]; omega)
      rw [mL_at hlt, ← hkj] at c1
      simp only [cV] at c1
      obtain ⟨m1, m2, m3⟩ := mOk_at (k := kj) (by omega)
      have o1 : (FloatKind.f32.format.order (mX kj) (mX kj) == some Ordering.eq) = true := by rw [order_self m3]; rfl
      have o2 : (FloatKind.f32.format.order one32 one32 == some Ordering.eq) = true := by rw [order_self one32_nan]; rfl
      have k0 : (0 : Int) ≤ (j : Int) := by omega
      have k1 : (j : Int) < (n : Int) := by omega
      have k2 : (kj : Int) < 2100 := by omega
      clear hc hkj
      go_wp2_with fail
      go_roundw
      case rel =>
        have hkj := HK.out
        exact ⟨j + 1, kj + 1, by omega, Lib.hid (by omega), by go_num, by go_num, trivial⟩
      case measure => simp [intOf]; omega
    · have hjn : j = n := by omega
      subst hjn
      subst hkj
      go_wp2_with fail
      go_ret
      exact ⟨rfl, rfl⟩
theorem quiet_of2 {P : Program} {f : FuncId} {args : Array Value} {w : World} {q n : Nat} {v : Value}
    (h : Calls P f args (w.drewN (q + n)) fun e w' => e = .returned v ∧ ∃ m, w' = (w.drewN (q + n)).drewN m) : Calls P f args (w.drewN (q + n)) fun e w'' => e = .returned v ∧ ∃ m, w'' = w.drewN (q + m) :=
  h.mono fun _ _ ⟨he, m, hm⟩ => ⟨he, n + m, by rw [hm, World.drewN_drewN, Nat.add_assoc]⟩
set_option maxHeartbeats 1000000 in
set_option maxRecDepth 100000 in
theorem eqC1 (lo hi lo' hi' : Nat) (a b : Option Addr) (ca cb : Nat) (l : List Cx) (hn : l.length ≤ 1048576) (hok : l.all okPt = true) (w : World) (ha : SlC w lo hi a l) (hb : SlC w lo' hi' b l) :
    Calls Tryz.prog 26 #[.slice a l.length ca, .slice b l.length cb] w fun e w' => e = .returned (.bool true) ∧ ∃ n, w' = w.drewN n := by
  have HA := Lib.hid ha
  have HB := Lib.hid hb
  have HO := Lib.hid hok
  clear ha hb hok
  go_enter Tryz.func26, Tryz.ntmps26
  go_wp2_with fail
  go_loopw [5] (fun i wr => ∃ k q : Nat, k ≤ l.length ∧ i = .int .i64 k ∧ wr = w.drewN q) (fun i _ => l.length - (intOf i).toNat)
  case atStart => exact ⟨0, 0, by omega, rfl, rfl⟩
  case round =>
    obtain ⟨k, q, hk, rfl, rfl⟩ := hrel
    by_cases hlt : k < l.length
    · obtain ⟨b1, rfl, _, _, hc1⟩ := HA.out (by omega)
      obtain ⟨b2, rfl, _, _, hc2⟩ := HB.out (by omega)
      obtain ⟨x, y, hxy, hx, hy⟩ := okAt HO.out hlt
      have c1 := hc1 k hlt
      have c2 := hc2 k hlt
      rw [hxy] at c1 c2
      simp only [cV] at c1 c2
      clear hc1 hc2 hxy
      have k0 : (0 : Int) ≤ (k : Int) := by omega
      have k1 : (k : Int) < (l.length : Int) := by omega
      go_wp2_with fail
      go_quiet (first | (go_at_call 53; refine quiet_of2 (sameComplex _ _ _)))
      go_wp2_with fail
      go_roundw
      case rel => exact ⟨k + 1, _, by omega, by go_num, by first | rfl | (simp only [World.drewN_drewN]; done)⟩
      case measure => simp [intOf]; omega
    · go_wp2_with fail
      go_ret
      exact ⟨rfl, _, rfl⟩
set_option maxHeartbeats 1000000 in
set_option maxRecDepth 100000 in
theorem eqSpot (x y z x' y' z' : Nat) (hx : can .f32 x = can .f32 x') (hy : can .f32 y = can .f32 y') (hz : can .f32 z = can .f32 z') (w : World) :
    Calls Tryz.prog 60 #[spV x y z, spV x' y' z'] w fun e w' => e = .returned (.bool true) ∧ Below w.heap.size w w' := by
  have HX := Lib.hid hx
  have HY := Lib.hid hy
  have HZ := Lib.hid hz
  clear hx hy hz
  unfold spV
  go_enter Tryz.func60, Tryz.ntmps60
  go_wp2_with fail
  refine (sameFloat _ _ (can_widen HX.out) _).mono ?_
  rintro e w' ⟨rfl, n, rfl⟩
  go_wp2_with fail
  refine (sameFloat _ _ (can_widen HY.out) _).mono ?_
  rintro e w' ⟨rfl, n, rfl⟩
  go_wp2_with fail
  refine (sameFloat _ _ (can_widen HZ.out) _).mono ?_
  rintro e w' ⟨rfl, n, rfl⟩
  go_wp2_with fail
  go_ret
  exact ⟨rfl, by (repeat (first | exact Below.refl _ _ | assumption | refine below_dr ?_ _ | refine Below.alloc ?_ (by first | omega | (simp; done) | (simp; omega)) _ | refine Below.setCell ?_ (by first | omega | (simp; done) | (simp; omega)) _ | refine Below.trans ?_ (Below.mono (by assumption) (by first | omega | (simp; done) | (simp; omega)))))⟩
set_option maxHeartbeats 1000000 in
set_option maxRecDepth 100000 in
theorem eqSpotS (lo hi lo' hi' : Nat) (a b : Option Addr) (ca cb : Nat) (ps : List Sp) (hn : ps.length ≤ 1048576) (w : World) (ha : SlP w lo hi a ps) (hb : SlP w lo' hi' b ps) (h1 : hi ≤ w.heap.size) (h2 : hi' ≤ w.heap.size) :
    Calls Tryz.prog 36 #[.slice a ps.length ca, .slice b ps.length cb] w fun e w' => e = .returned (.bool true) ∧ Below w.heap.size w w' := by
  have HA := Lib.hid ha
  have HB := Lib.hid hb
  clear ha hb
  go_enter Tryz.func36, Tryz.ntmps36
  go_wp2_with fail
  go_loopw [5] (fun i wr => ∃ k : Nat, k ≤ ps.length ∧ i = .int .i64 k ∧ Hid (Below w.heap.size w wr)) (fun i _ => ps.length - (intOf i).toNat)
  case atStart => exact ⟨0, by omega, rfl, Below.refl _ _⟩
  case round =>
    obtain ⟨k, hk, rfl, HW⟩ := hrel
    by_cases hlt : k < ps.length
    · obtain ⟨b1, o1, rfl, _, q1, hc1⟩ := HA.out.far (Far.below HW.out h1) (by omega)
      obtain ⟨b2, o2, rfl, _, q2, hc2⟩ := HB.out.far (Far.below HW.out h2) (by omega)
      obtain ⟨x, y, z, c1, c2, c3, f1, f2, f3⟩ := hc1 k hlt
      obtain ⟨x', y', z', c1', c2', c3', f1', f2', f3'⟩ := hc2 k hlt
      have g1 := f1.trans f1'.symm
      have g2 := f2.trans f2'.symm
      have g3 := f3.trans f3'.symm
      have G1 := Lib.hid g1
      have G2 := Lib.hid g2
      have G3 := Lib.hid g3
      clear hc1 hc2 f1 f2 f3 f1' f2' f3' g1 g2 g3
      have k0 : (0 : Int) ≤ (k : Int) := by omega
      have k1 : (k : Int) < (ps.length : Int) := by omega
      go_wp2_with fail
      go_region_held3 (fun w' => w'.cell? ⟨b1, o1 + k * 3, none⟩ = some (.float .f32 x) ∧ w'.cell? ⟨b1, o1 + k * 3 + 1, none⟩ = some (.float .f32 y) ∧ w'.cell? ⟨b1, o1 + k * 3 + 2, none⟩ = some (.float .f32 z) ∧ w'.cell? ⟨b2, o2 + k * 3, none⟩ = some (.float .f32 x') ∧ w'.cell? ⟨b2, o2 + k * 3 + 1, none⟩ = some (.float .f32 y') ∧ w'.cell? ⟨b2, o2 + k * 3 + 2, none⟩ = some (.float .f32 z')) (first | go_keep | (refine ⟨?_, ?_, ?_, ?_, ?_, ?_⟩ <;> exact keep_cell (by assumption) (by assumption)))
        ((go_at_call 60; refine (eqSpot x y z x' y' z' G1.out G2.out G3.out _).mono ?_; rintro e w3 ⟨rfl, hb3⟩))
      have HW3 := HW.out.drew.trans (hb3.mono HW.out.size)
      clear hb3 HW
      go_wp2_with fail
      go_roundw
      case rel => exact ⟨k + 1, by omega, by go_num, HW3⟩
      case measure => simp [intOf]; omega
    · go_wp2_with fail
      go_ret
      exact ⟨rfl, HW.out⟩
end Go.Proofs.YtlpgaekkhlinhaaGreatDoor

/- spec.l01Check, spec.l01Dec: the check of a text, the decimal digits of a number. -/
import Derived.Test.YtlpgaekkhlinhaaGreatDoorJrn
import Derived.Laws.IdiomStrings
import Derived.Deep.AppendSrc
import Derived.Below
namespace Go.Fl
open Go.RowKit
/-- a slice's length -/
def slen : Value → Nat
  | .slice _ n _ => n
  | _ => 0
/-- the digits put ahead so far, and what is left -/
def DecI (n : Nat) (out : List UInt8) (rest : Nat) : Prop :=
  (out = [] ∧ rest = n) ∨ (out ≠ [] ∧ rest ≤ n ∧ (if rest = 0 then out = Lib.decDigits n else Lib.decDigits rest ++ out = Lib.decDigits n))
theorem DecI.step {n : Nat} {out : List UInt8} {rest : Nat} (h : DecI n out rest) (hr : out = [] ∨ rest ≠ 0) : DecI n (UInt8.ofNat (48 + rest % 10) :: out) (rest / 10) := by
  have hd : Lib.decDigits rest = if rest < 10 then [UInt8.ofNat (48 + rest)] else Lib.decDigits (rest / 10) ++ [UInt8.ofNat (48 + rest % 10)] := by rw [Lib.decDigits]; split <;> rfl
  have h2 : Lib.decDigits rest ++ out = Lib.decDigits n ∧ rest ≤ n := by
    rcases h with ⟨rfl, rfl⟩ | ⟨h1, h2, h3⟩
    · simp
    · rw [if_neg (hr.resolve_left h1)] at h3; exact ⟨h3, h2⟩
  refine .inr ⟨by simp, by omega, ?_⟩
  rw [← h2.1, hd]
  by_cases h9 : rest < 10
  · rw [if_pos (by omega), if_pos h9, show rest % 10 = rest by omega]; rfl
  · rw [if_neg (by omega), if_neg h9]; simp
theorem DecI.done {n : Nat} {out : List UInt8} (h : DecI n out 0) (hr : out ≠ []) : out = Lib.itoa n := by
  rcases h with ⟨h1, _⟩ | ⟨_, _, h3⟩
  · exact absurd h1 hr
  · rw [if_pos rfl] at h3
    rw [h3, Lib.itoa, if_neg (by omega)]; rfl
theorem DecI.len {n : Nat} {out : List UInt8} {rest : Nat} (h : DecI n out rest) : out.length ≤ Lib.nDigits n := by
  rcases h with ⟨rfl, _⟩ | ⟨_, _, h3⟩
  · simp
  · rw [← Lib.decDigits_length]
    split at h3
    · rw [h3]; exact Nat.le_refl _
    · rw [← h3]; simp
theorem nDigits_le_self : ∀ u : Nat, Lib.nDigits u ≤ u + 1 := fun u => by
  induction u using Nat.strongRecOn with
  | _ u ih =>
    by_cases h : u < 10
    · rw [Lib.nDigits_small h]; omega
    · rw [Lib.nDigits_big h]; have := ih (u / 10) (by omega); omega

/-- a new slice of one cell, onto which a row is appended -/
theorem wpList_pre {P : Program} {ops : Array Oper} {rest : List Oper} {o : Oper} {a : Act} {Q : Exit → Act → World → Prop} (hgd : o.guard = none) (s x : Operand) (t : TypeId)
    (ho : o.op = .call { callee := .builtin .append, args := #[s, x], argTypes := #[t, t] })
    (e : TypeId) (z : Value) (bytes : Nat) (ht : P.underlying t = some (.slice e)) (hinfo : (P.info? e).map (fun i => (i.zero, i.size, i.bytes)) = some (some z, 1, bytes)) (hzs : z.cells.size = 1)
    (w0 : World) (v : Value)
    (b cap n : Nat) (cs : List Value) (hs : a.eval s = .slice (some ⟨w0.heap.size, 0, none⟩) 1 1) (hx : a.eval x = .slice (some ⟨b, 0, none⟩) n cap) (hrow : ORow w0 e 1 b cap n cs)
    (h1 : ∀ u ∈ cs, u.oneCell' = true)
    (hn : n ≤ 1099511627776) (hby : bytes ≤ 64)
    (h : ∀ b' cap' w1, ORow w1 e 1 b' cap' (n + 1) (v :: cs) → w0.heap.size ≤ b' → RowKit.Below w0.heap.size w0 w1 → wpList P ops Q rest (a.put o.dst (.slice (some ⟨b', 0, none⟩) (n + 1) cap')) w1) :
    wpList P ops Q (o :: rest) a (w0.alloc (.cells #[v] e)) := by
  obtain ⟨i, hi, hzz⟩ := Option.map_eq_some_iff.1 hinfo
  simp only [Prod.mk.injEq] at hzz
  obtain ⟨hz, hs1, hb1⟩ := hzz
  have hlt := hrow.lt
  have hl := hrow.1
  have hown : (w0.alloc (.cells #[v] e)).ownsRow w0.heap.size e 1 (.slice (some ⟨w0.heap.size, 0, none⟩) 1 1) 1 [v] :=
    ⟨rfl, .inr ⟨w0.heap.size, 1, #[v], rfl, Nat.le_refl _, heap_alloc_new w0 _, Nat.le_refl _, by simp [maxLen], rfl, rfl⟩⟩
  have hbel : RowKit.Below w0.heap.size w0 (w0.alloc (.cells #[v] e)) := Below.alloc (Below.refl _ _) (Nat.le_refl _) _
  by_cases hn0 : n = 0
  · subst hn0
    have hcs : cs = [] := by simpa using hl
    subst hcs
    have hsrc : Src P 1 t (.slice (some ⟨b, 0, none⟩) 0 cap) 0 [] (w0.alloc (.cells #[v] e)) := Src.ofSlice _ ht ⟨b, 0, none⟩ 0 cap [] rfl (fun j u hj => by simp at hj) (fun u hu => by cases hu)
    refine wpList_plain hgd fun K hK => ?_
    have hr := run_append_room_src (P := P) (w0.alloc (.cells #[v] e)) t t o.type e i ht hi w0.heap.size 0 1 1 (.slice (some ⟨b, 0, none⟩) 0 cap) 0 [] (by rw [hs1]; exact hsrc) (Nat.le_refl _) (fun j hj => by simp at hj) (fun j hj => by simp at hj)
    unfold Oper.wp execOp
    simp only [ho, resolve, invoke, builtin, Sem.run_bind, Sem.run_pure, Result.andThen_ok, List.map_toArray, List.map_cons, List.map_nil, hs, hx, hr]
    exact hK _ _ (h w0.heap.size 1 _ ⟨by simp, hown.2⟩ (Nat.le_refl _) hbel)
  · refine wpList_append_lies (w0.alloc (.cells #[v] e)) hgd s x t ho w0.heap.size e i z 1 bytes ht hi hz hs1 hb1 hzs (by decide) _ 1 [v] hs hown ⟨b, 0, none⟩ n cap cs hx (by simpa using hl) (fun j u hj => ?_) h1 (by omega) (by simp [maxLen]; omega)
      (Nat.le_trans (Nat.mul_le_mul_left (1 + n) hby) (by omega)) (by simp) (w0.heap.size + 1) (by simp) ?_
    · have hadd : (⟨b, 0, none⟩ : Addr).add j = ⟨b, j, none⟩ := by unfold Addr.add; split <;> simp_all
      have hj' : j < n * 1 := by rw [← hl]; exact (List.getElem?_eq_some_iff.1 hj).1
      rw [hadd, hbel.cell (p := ⟨b, j, none⟩) hlt, hrow.cell j hj', hj]
    · intro g cap1 w1 hown1 hgrow hat _
      have hg : w0.heap.size ≤ g := by
        rcases hat with hat | hat
        · have : w0.heap.size = g := by simpa [Value.ownBlock] using hat
          omega
        · omega
      rw [Nat.add_comm] at hown1
      have := h g cap1 w1 ?_ hg ?_
      · rw [Nat.add_comm 1 n]; exact this
      · obtain ⟨q1, q2⟩ := hown1
        refine ⟨q1, ?_⟩
        rcases q2 with ⟨q3, _⟩ | ⟨g2, c, cur, hv, _, r⟩
        · cases q3
        · refine .inr ⟨g2, c, cur, hv, ?_, r⟩
          have : g2 = g := by simpa using (Value.slice.inj hv).1.symm
          omega
      · refine ⟨hgrow.os, hgrow.tape, hgrow.output, Nat.le_trans (by simp) hgrow.size, fun c hc => ?_⟩
        rw [hgrow.block c (by simp; omega) (by simp [Value.ownBlock]; omega)]
        exact RowKit.Below.heap_alloc _ _ _ hc
end Go.Fl
namespace Go.Proofs.YtlpgaekkhlinhaaGreatDoor
open Go.RowKit Go.Fl

theorem infoU8 : (Tryz.prog.info? 5).map (fun i => (i.zero, i.size, i.bytes)) = some (some (.int .u8 0), 1, 1) := by kernel_rfl

set_option maxHeartbeats 1000000 in
theorem l01Dec (n : Nat) (h1 : n ≤ 1000000000) (w : World) :
    Calls Tryz.prog 85 #[.int .i64 n] w fun e w' => e = .returned (.string ⟨(Lib.itoa n).toArray⟩) ∧ Below w.heap.size w w' := by
  go_enter Tryz.func85, Tryz.ntmps85
  go_wp2_with fail
  go_loopw [3, 4] (fun o r wr => ∃ (out : List UInt8) (rest b cap : Nat), DecI n out rest ∧ r = .int .i64 rest ∧ o = .slice (some ⟨b, 0, none⟩) out.length cap ∧ Hid (ORow wr 5 1 b cap out.length (Lib.byteCells out)) ∧ w.heap.size ≤ b ∧ Hid (Below w.heap.size w wr)) (fun o r _ => (if slen o = 0 then 1 else 0) + (intOf r).toNat)
  case atStart =>
    refine ⟨[], n, w.heap.size, 0, .inl ⟨rfl, rfl⟩, rfl, rfl, ?_, Nat.le_refl _, Below.alloc (Below.refl _ _) (Nat.le_refl _) _⟩
    exact ORow.new w _ _
  case round =>
    obtain ⟨out, rest, b, cap, hD, rfl, rfl, HR, hbb, HW⟩ := hrel
    have hlen := hD.len
    have hnd := nDigits_le_self n
    have hrn : rest ≤ n := by
      rcases hD with ⟨_, h⟩ | ⟨_, h, _⟩ <;> omega
    have r0 : (0 : Int) ≤ (rest : Int) := by omega
    have r1 : ¬ (rest : Int) % 10 < 0 := by omega
    have r2 : 0 ≤ (rest : Int) % 10 ∧ (rest : Int) % 10 ≤ 9 := by omega
    have r3 : (rest : Int) ≤ 1000000000 := by omega
    have e1 : Value.int .u8 (48 + (rest : Int) % 10) :: Lib.byteCells out = Lib.byteCells (UInt8.ofNat (48 + rest % 10) :: out) := by
      have : (UInt8.ofNat (48 + rest % 10)).toNat = 48 + rest % 10 := by
        rw [UInt8.toNat_ofNat']; omega
      simp only [Lib.byteCells, List.map_cons, this]
      congr 2
    have goOn : (out = [] ∨ rest ≠ 0) → DecI n (UInt8.ofNat (48 + rest % 10) :: out) (rest / 10) := fun h => hD.step h
    by_cases he : out = []
    · subst he
      have hz2 := HW.out.size
      go_wp2_with (at_builtin; refine wpList_pre rfl _ _ _ rfl 5 (.int .u8 0) 1 Tryz.underlying137 infoU8 rfl _ _ b cap _ _ rfl rfl HR.out (by simp [Lib.byteCells, Value.oneCell']) (by simp) (by decide) ?_; intro b4 cap4 w4 hr4 hg4 hgr4)
      go_roundw
      case rel =>
        refine ⟨_, rest / 10, b4, cap4, goOn (.inl rfl), by go_num, rfl, ?_, by omega, HW.out.trans (hgr4.mono (by omega))⟩
        rw [← e1]; exact hr4
      case measure => simp [intOf, slen]; omega
    · have hl0 : 0 < out.length := List.length_pos_iff.2 he
      have f1 : ((out.length : Int) == 0) = false := by simp; exact he
      have f1' : ¬ (out.length : Int) = 0 := by omega
      by_cases hr : rest = 0
      · subst hr
        have hcv : (convert 137 9 (.slice (some ⟨b, 0, none⟩) out.length cap)).run Tryz.prog wr = .ok (.string ⟨out.toArray⟩) wr :=
          run_convert_bytes_back wr _ _ 5 ⟨b, 0, none⟩ cap out Tryz.underlying137 Tryz.underlying5 Tryz.underlying9 (fun j hj => by
            have hadd : (⟨b, 0, none⟩ : Addr).add j = ⟨b, j, none⟩ := by unfold Addr.add; split <;> simp_all
            rw [hadd, HR.out.cell j (by omega)]
            simp [Lib.byteCells, hj])
        have hn0 : ¬ (n : Int) < 0 := by omega
        go_wp2_with fail
        go_ret
        rw [hD.done he]
        exact ⟨rfl, HW.out⟩
      · have f2 : ((rest : Int) != 0) = true := by simp; omega
        have f2' : ¬ (rest : Int) = 0 := by omega
        have hz2 := HW.out.size
        go_wp2_with (at_builtin; refine wpList_pre rfl _ _ _ rfl 5 (.int .u8 0) 1 Tryz.underlying137 infoU8 rfl _ _ b cap _ _ rfl rfl HR.out (by simp [Lib.byteCells, Value.oneCell']) (by omega) (by decide) ?_; intro b4 cap4 w4 hr4 hg4 hgr4)
        go_roundw
        case rel =>
          refine ⟨_, rest / 10, b4, cap4, goOn (.inr hr), by go_num, rfl, ?_, by omega, HW.out.trans (hgr4.mono (by omega))⟩
          rw [← e1]; exact hr4
        case measure => simp [intOf, slen, he]; omega
theorem l01DecI (n : Int) (h0 : 0 ≤ n) (h1 : n ≤ 1000000000) (w : World) :
    Calls Tryz.prog 85 #[.int .i64 n] w fun e w' => e = .returned (.string ⟨(Lib.itoa n).toArray⟩) ∧ Below w.heap.size w w' := by
  obtain ⟨m, rfl⟩ := Int.eq_ofNat_of_zero_le h0
  exact l01Dec m (by omega) w
end Go.Proofs.YtlpgaekkhlinhaaGreatDoor

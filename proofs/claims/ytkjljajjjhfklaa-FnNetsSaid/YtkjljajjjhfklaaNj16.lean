/- The other corners of all edges of a corner: what the reference and the program make of them. The other corners of all edges of a corner: the program's. How the arguments of a law are opened. -/
import Derived.Test.YtkjljajjjhfklaaNj12
import Derived.Test.YtkjljajjjhfklaaRows
import Derived.Test.YtkjljajjjhfklaaNj01
import Derived.ProofKit
import Derived.OpenShut
import Derived.ChangeOld
import Derived.Lib.SmallJoins
namespace Go.Fl
/-- what an edge from a to b gives to the corner x -/
def othE (a b x : Int) : List Int := if a = x then [b] else if b = x then [a] else []
/-- of the first k edges of L those for which p holds -/
def othTo (p : Nat → Bool) (A B : List Int) (L : List Nat) (x : Int) : Nat → List Int
  | 0 => []
  | k + 1 => othTo p A B L x k ++ (if p (L.getD k 0) then othE (iAt A (L.getD k 0)) (iAt B (L.getD k 0)) x else [])
theorem othE_len (a b x : Int) : (othE a b x).length ≤ 1 := by unfold othE; split <;> (try split) <;> simp
theorem othTo_len (p : Nat → Bool) (A B : List Int) (L : List Nat) (x : Int) : ∀ k, (othTo p A B L x k).length ≤ k
  | 0 => by simp [othTo]
  | k + 1 => by
    have := othTo_len p A B L x k
    have h2 := othE_len (iAt A (L.getD k 0)) (iAt B (L.getD k 0)) x
    simp only [othTo, List.length_append]
    split
    · omega
    · simp; omega
/-- the same from a list of pairs, the first m pairs -/
def othP (xs : List Int) (x : Int) : Nat → List Int
  | 0 => []
  | m + 1 => othP xs x m ++ ((if iAt xs (2 * m) = x then [iAt xs (2 * m + 1)] else []) ++ (if iAt xs (2 * m + 1) = x then [iAt xs (2 * m)] else []))
theorem othP_app {xs ys : List Int} {x : Int} : ∀ m, 2 * m ≤ xs.length → othP (xs ++ ys) x m = othP xs x m
  | 0, _ => rfl
  | m + 1, h => by
    have e1 : iAt (xs ++ ys) (2 * m) = iAt xs (2 * m) := by unfold iAt; rw [List.getD_eq_getElem?_getD, List.getD_eq_getElem?_getD, List.getElem?_append_left (by omega)]
    have e2 : iAt (xs ++ ys) (2 * m + 1) = iAt xs (2 * m + 1) := by unfold iAt; rw [List.getD_eq_getElem?_getD, List.getD_eq_getElem?_getD, List.getElem?_append_left (by omega)]
    rw [othP, othP, othP_app m (by omega), e1, e2]
theorem othP_len (xs : List Int) (x : Int) : ∀ m, (othP xs x m).length ≤ 2 * m
  | 0 => by simp [othP]
  | m + 1 => by
    have := othP_len xs x m
    simp only [othP, List.length_append]
    split <;> split <;> simp <;> omega
theorem prTo_even (p : Nat → Bool) (A B : List Int) (L : List Nat) : ∀ k, ∃ m, (prTo p A B L k).length = 2 * m
  | 0 => ⟨0, rfl⟩
  | k + 1 => by
    obtain ⟨m, hm⟩ := prTo_even p A B L k
    simp only [prTo, List.length_append, hm]
    split
    · exact ⟨m + 1, by simp; omega⟩
    · exact ⟨m, by simp⟩
/-- the two agree where no edge leads back to its own corner -/
theorem othP_prTo {p : Nat → Bool} {A B : List Int} {L : List Nat} {x : Int} (hne : ∀ k, k < L.length → iAt A (L.getD k 0) ≠ iAt B (L.getD k 0)) : ∀ k m, k ≤ L.length → (prTo p A B L k).length = 2 * m → othP (prTo p A B L k) x m = othTo p A B L x k
  | 0, m, _, h => by
    have : m = 0 := by simp [prTo] at h; omega
    subst this; rfl
  | k + 1, m, hk, h => by
    cases hp : p (L.getD k 0) with
    | false =>
      rw [prTo_no hp] at h ⊢
      rw [othP_prTo hne k m (by omega) h, othTo, if_neg (by rw [hp]; decide), List.append_nil]
    | true =>
      obtain ⟨m', hm'⟩ := prTo_even p A B L k
      rw [prTo_yes hp] at h ⊢
      have hm : m = m' + 1 := by simp only [List.length_append, hm', List.length_cons, List.length_nil] at h; omega
      subst hm
      have e1 : iAt (prTo p A B L k ++ [iAt A (L.getD k 0), iAt B (L.getD k 0)]) (2 * m') = iAt A (L.getD k 0) := by
        unfold iAt; rw [List.getD_eq_getElem?_getD, List.getElem?_append_right (by omega), hm', Nat.sub_self]; rfl
      have e2 : iAt (prTo p A B L k ++ [iAt A (L.getD k 0), iAt B (L.getD k 0)]) (2 * m' + 1) = iAt B (L.getD k 0) := by
        unfold iAt; rw [List.getD_eq_getElem?_getD, List.getElem?_append_right (by omega), hm', Nat.add_sub_cancel_left]; rfl
      have hn := hne k (by omega)
      rw [othP, othP_app m' (by omega), othP_prTo hne k m' (by omega) hm', e1, e2, othTo, if_pos hp]
      congr 1
      unfold othE
      by_cases h1 : iAt A (L.getD k 0) = x
      · rw [if_pos h1, if_pos h1, if_neg (fun e => hn (h1.trans e.symm))]; rfl
      · rw [if_neg h1, if_neg h1]; rfl
end Go.Fl
namespace Go.Proofs.Ytkjljajjjhfklaa
open Go.RowKit Go.Fl

end Go.Proofs.Ytkjljajjjhfklaa

namespace Go.Proofs.Ytkjljajjjhfklaa
open Go.RowKit Go.Fl

set_option maxHeartbeats 1000000 in
theorem isBorder (a b f s : Int) (w : World) : Calls Try.prog 31 #[.agg #[.int .i64 a, .int .i64 b, .int .i64 f, .int .i64 s]] w fun e w' => e = .returned (.bool (decide (s < 0))) ∧ Below w.heap.size w w' := by
  go_enter Try.func31, Try.ntmps31
  go_wp2_with fail
  go_ret
  exact ⟨rfl, by (repeat (first | exact Below.refl _ _ | assumption | refine below_dr ?_ _ | refine Below.alloc ?_ (by first | omega | (simp; done) | (simp; omega)) _ | refine Below.setCell ?_ (by first | omega | (simp; done) | (simp; omega)) _ | refine Below.trans ?_ (Below.mono (by assumption) (by first | omega | (simp; done) | (simp; omega)))))⟩
theorem anyEdge (a b f s : Int) (w : World) : Calls Try.prog 57 #[.agg #[.int .i64 a, .int .i64 b, .int .i64 f, .int .i64 s]] w fun e w' => e = .returned (.bool true) ∧ Below w.heap.size w w' := by
  go_enter Try.func57, Try.ntmps57
  go_wp2_with fail
  go_ret
  exact ⟨rfl, by (repeat (first | exact Below.refl _ _ | assumption | refine below_dr ?_ _ | refine Below.alloc ?_ (by first | omega | (simp; done) | (simp; omega)) _ | refine Below.setCell ?_ (by first | omega | (simp; done) | (simp; omega)) _ | refine Below.trans ?_ (Below.mono (by assumption) (by first | omega | (simp; done) | (simp; omega)))))⟩

set_option maxHeartbeats 2000000 in
set_option maxRecDepth 100000 in
theorem others (lo hi eb ec m : Nat) (g : Nat) (q : Int → Bool) (A B F : List Int) (L : List Nat) (x : Int) (hn : L.length ≤ 1048576) (hl : lo ≤ eb) (hh : eb < hi) (w : World) (hw : hi ≤ w.heap.size)
    (hgo : ∀ args w, Sem.run Try.prog (callFunc g args) w = .ok (.enter g args) w)
    (hcl : ∀ a b f s w, Calls Try.prog g #[.agg #[.int .i64 a, .int .i64 b, .int .i64 f, .int .i64 s]] w fun e w' => e = .returned (.bool (q s)) ∧ Below w.heap.size w w')
    (he : ∀ k r, k < L.length → r < 4 → w.cell? ⟨eb, k * 4 + r, none⟩ = some (.int .i64 (edP A B F m (L.getD k 0) r))) :
    Calls Try.prog 56 #[.slice (some ⟨eb, 0, none⟩) L.length ec, .int .i64 x, .func (.func g) #[] #[]] w fun e w' =>
      (∃ b cap, e = .returned (.slice (some ⟨b, 0, none⟩) (othTo (fun s => q (secF A B F m s)) A B L x L.length).length cap) ∧ ORow w' 2 1 b cap (othTo (fun s => q (secF A B F m s)) A B L x L.length).length ((othTo (fun s => q (secF A B F m s)) A B L x L.length).map (Value.int .i64)) ∧ w.heap.size ≤ b) ∧ Below w.heap.size w w' := by
  have HE := Lib.hid he
  have HCL := Lib.hid hcl
  have HLN := Lib.hid (othTo_len (fun s => q (secF A B F m s)) A B L x)
  clear he hcl
  go_enter Try.func56, Try.ntmps56
  go_wp2_with fail
  go_loopw [7, 13] (fun out i wr => ∃ (k b cap : Nat), k ≤ L.length ∧ i = .int .i64 k ∧ out = .slice (some ⟨b, 0, none⟩) (othTo (fun s => q (secF A B F m s)) A B L x k).length cap ∧ Hid (ORow wr 2 1 b cap (othTo (fun s => q (secF A B F m s)) A B L x k).length ((othTo (fun s => q (secF A B F m s)) A B L x k).map (Value.int .i64))) ∧ w.heap.size ≤ b ∧ Hid (Below w.heap.size w wr)) (fun _ i _ => L.length - (intOf i).toNat)
  case atStart => exact ⟨0, _, _, by omega, rfl, rfl, ORow.new w _ _, Nat.le_refl _, Below.alloc (Below.refl _ _) (Nat.le_refl _) _⟩
  case round =>
    obtain ⟨k, b, cap, hk, rfl, rfl, HR, hbb, HW⟩ := hrel
    by_cases hlt : k < L.length
    · have e0 : wr.cell? ⟨eb, k * 4, none⟩ = some (.int .i64 (iAt A (L.getD k 0))) := (HW.out.cell (p := ⟨eb, k * 4, none⟩) (by simp; omega)).trans (HE.out k 0 hlt (by omega))
      have e1 : wr.cell? ⟨eb, k * 4 + 1, none⟩ = some (.int .i64 (iAt B (L.getD k 0))) := (HW.out.cell (p := ⟨eb, k * 4 + 1, none⟩) (by simp; omega)).trans (HE.out k 1 hlt (by omega))
      have e2 : wr.cell? ⟨eb, k * 4 + 2, none⟩ = some (.int .i64 (iAt F (L.getD k 0))) := (HW.out.cell (p := ⟨eb, k * 4 + 2, none⟩) (by simp; omega)).trans (HE.out k 2 hlt (by omega))
      have e3 : wr.cell? ⟨eb, k * 4 + 3, none⟩ = some (.int .i64 (secF A B F m (L.getD k 0))) := (HW.out.cell (p := ⟨eb, k * 4 + 3, none⟩) (by simp; omega)).trans (HE.out k 3 hlt (by omega))
      have hln := HLN.out k
      have hzw := HW.out.size
      have hrl := HR.out.lt
      have k0 : (0 : Int) ≤ (k : Int) := by omega
      have k1 : (k : Int) < (L.length : Int) := by omega
      have HSUC : Hid (othTo (fun s => q (secF A B F m s)) A B L x (k + 1) = othTo (fun s => q (secF A B F m s)) A B L x k ++ (if q (secF A B F m (L.getD k 0)) then othE (iAt A (L.getD k 0)) (iAt B (L.getD k 0)) x else [])) := Lib.hid rfl
      generalize othTo (fun s => q (secF A B F m s)) A B L x k = now at *
      generalize secF A B F m (L.getD k 0) = s at *
      generalize iAt A (L.getD k 0) = u at *
      generalize iAt B (L.getD k 0) = v at *
      generalize iAt F (L.getD k 0) = f at *
      have hO : OwnC (wr.alloc (.cells #[.int .i64 u, .int .i64 v, .int .i64 f, .int .i64 s] 64)) wr.heap.size #[.int .i64 u, .int .i64 v, .int .i64 f, .int .i64 s] 64 := OwnC.new rfl
      have HO := Lib.hid hO
      have HAL : Hid (Below wr.heap.size wr (wr.alloc (.cells #[.int .i64 u, .int .i64 v, .int .i64 f, .int .i64 s] 64))) := Lib.hid (Below.alloc (Below.refl _ _) (Nat.le_refl _) _)
      have HC := Lib.hid (HCL.out u v f s (wr.alloc (.cells #[.int .i64 u, .int .i64 v, .int .i64 f, .int .i64 s] 64)))
      clear hO
      cases hq : q s
      · have HQ := Lib.hid hq
        clear hq
        go_wp2_with (refine HC.out.mono ?_; rintro e w3 ⟨rfl, hb3⟩; rw [HQ.out]; have HB3 := Lib.hid (HAL.out.trans (hb3.mono (by simp))); clear hb3)
        go_roundw
        case rel => exact ⟨k + 1, b, cap, by omega, by go_num, by rw [HSUC.out, HQ.out]; simp, by rw [HSUC.out, HQ.out]; exact Lib.hid (by simpa using HR.out.below HB3.out hrl), hbb, Lib.hid (HW.out.trans (HB3.out.mono hzw))⟩
        case measure => simp [intOf]; omega
      · have HQ := Lib.hid hq
        clear hq
        by_cases h1 : u = x
        · subst h1
          go_wp2_with (first
            | (refine HC.out.mono ?_; rintro e w3 ⟨rfl, hb3⟩; rw [HQ.out]; have HB3 := Lib.hid (HAL.out.trans (hb3.mono (by simp))); have O3 := HO.out.below hb3 (by simp); have c0 := O3.cell 0; have c1 := O3.cell 1; simp at c0 c1; have HR3 := Lib.hid (HR.out.below HB3.out hrl); have hz3 := HB3.out.size; clear hb3 O3)
            | (at_builtin; refine wpList_app rfl _ _ _ rfl 2 (.int .i64 0) 1 8 Try.underlying29 infoInt rfl (by decide) _ #[.int .i64 v] 2 rfl (by simp [Value.oneCell']) b cap _ _ rfl rfl HR3.out (by omega) (by decide) ?_; intro b4 cap4 w4 hr4 hg4 hgr4))
          go_roundw
          case rel =>
            refine ⟨k + 1, b4, cap4, by omega, by go_num, by rw [HSUC.out, HQ.out]; simp [othE], ?_, by omega, Lib.hid ((HW.out.trans (HB3.out.mono hzw)).trans (hgr4.below hbb (by omega)))⟩
            rw [HSUC.out, HQ.out]
            exact Lib.hid (by simpa [othE] using hr4)
          case measure => simp [intOf]; omega
        · by_cases h2 : v = x
          · subst h2
            go_wp2_with (first
              | (refine HC.out.mono ?_; rintro e w3 ⟨rfl, hb3⟩; rw [HQ.out]; have HB3 := Lib.hid (HAL.out.trans (hb3.mono (by simp))); have O3 := HO.out.below hb3 (by simp); have c0 := O3.cell 0; have c1 := O3.cell 1; simp at c0 c1; have HR3 := Lib.hid (HR.out.below HB3.out hrl); have hz3 := HB3.out.size; clear hb3 O3)
              | (at_builtin; refine wpList_app rfl _ _ _ rfl 2 (.int .i64 0) 1 8 Try.underlying29 infoInt rfl (by decide) _ #[.int .i64 u] 2 rfl (by simp [Value.oneCell']) b cap _ _ rfl rfl HR3.out (by omega) (by decide) ?_; intro b4 cap4 w4 hr4 hg4 hgr4))
            go_roundw
            case rel =>
              refine ⟨k + 1, b4, cap4, by omega, by go_num, by rw [HSUC.out, HQ.out]; simp [othE, h1], ?_, by omega, Lib.hid ((HW.out.trans (HB3.out.mono hzw)).trans (hgr4.below hbb (by omega)))⟩
              rw [HSUC.out, HQ.out]
              exact Lib.hid (by simpa [othE, h1] using hr4)
            case measure => simp [intOf]; omega
          · go_wp2_with (refine HC.out.mono ?_; rintro e w3 ⟨rfl, hb3⟩; rw [HQ.out]; have HB3 := Lib.hid (HAL.out.trans (hb3.mono (by simp))); have O3 := HO.out.below hb3 (by simp); have c0 := O3.cell 0; have c1 := O3.cell 1; simp at c0 c1; clear hb3 O3)
            go_roundw
            case rel => exact ⟨k + 1, b, cap, by omega, by go_num, by rw [HSUC.out, HQ.out]; simp [othE, h1, h2], by rw [HSUC.out, HQ.out]; exact Lib.hid (by simpa [othE, h1, h2] using HR.out.below HB3.out hrl), hbb, Lib.hid (HW.out.trans (HB3.out.mono hzw))⟩
            case measure => simp [intOf]; omega
    · have hkl : k = L.length := by omega
      subst hkl
      go_wp2_with fail
      go_ret
      exact ⟨⟨b, cap, rfl, HR.out, hbb⟩, HW.out⟩
end Go.Proofs.Ytkjljajjjhfklaa

namespace Go.Proofs.Ytkjljajjjhfklaa
open Go.ChangeShapes Go.WideShapes Go.ChangeAt Go.RowKit Go.Joins

theorem own : ownKnob Try.prog.godebug = none := by kernel_rfl
theorem laidOut : laidOutB Try.prog = true := by kernel_rfl

section
variable {H : Type} {enc : TypeId × Value → H} {P : Program} {w : World} {base : Nat} {spare : Nat → Bool} {held : Bool}
theorem trod_float {t : TypeId} {k : FloatKind} {fuel : Nat} {c : Value} {y : DataW H × List MemPlace} (ht : P.underlying t = some (.float k)) (h : DataW.trod enc P w base spare held fuel t [c] = some y) : ∃ b, c = .float k b ∧ (Lit.float k b).wf = true := by
  cases fuel with
  | zero => simp [DataW.trod] at h
  | succ n =>
    simp only [DataW.trod, ht] at h
    cases c <;> simp at h
    obtain ⟨⟨rfl, hw⟩, _⟩ := h
    exact ⟨_, rfl, hw⟩
end

end Go.Proofs.Ytkjljajjjhfklaa

/- PROVED: FnExactSheetTextCardSaid: for all sheets the program's SheetText and the reference's return the same. No condition beyond the tie: the three listed tables of Go's library hold what the program's text lays. -/
import Derived.Test.YtlpgaekkhlinhaaDoorTie
import Derived.Test.YtlpgaekkhlinhaaDoorCards
import Derived.Test.YtlpgaekkhlinhaaDoorStLaw
import Derived.ProofKit
import Derived.Lay
import Derived.LaidOnce
import Derived.LaidSub
import Derived.SevenTiedAt
import Derived.Stop.Joined
import Derived.OpenShut
import Derived.ChangeOld
import Derived.Lib.SmallJoins
import Derived.Deep.Strs
import Derived.Deep.Slices
namespace Go.Proofs.YtlpgaekkhlinhaaDoor
open Go.RowKit Go.ChangeShapes Go.WideShapes Go.ChangeAt Go.Joins Go.Fl Go.Deep

theorem ownC : ownKnob Tryd.prog.godebug = none := by kernel_rfl
theorem laidOutC : laidOutB Tryd.prog = true := by kernel_rfl
theorem cells_spot {w : World} {a : Addr} {v : Value} (h : w.cell? a = some v) : a.spot = none := by
  unfold World.cell? at h
  split at h
  · split at h
    · cases h
    · rename_i h1; cases hs : a.spot <;> simp_all
  · cases h

section
variable {H : Type} {enc : TypeId × Value → H} {P : Program} {w : World} {base : Nat} {spare : Nat → Bool} {held : Bool}
theorem trod_float {t : TypeId} {k : FloatKind} {fuel : Nat} {c : Value} {y : DataW H × List MemPlace} (ht : P.underlying t = some (.float k)) (h : DataW.trod enc P w base spare held fuel t [c] = some y) : ∃ b, c = .float k b ∧ (Lit.float k b).wf = true := by
  cases fuel with
  | zero => simp [DataW.trod] at h
  | succ n =>
    simp only [DataW.trod, ht] at h
    cases c <;> simp at h
    obtain ⟨⟨rfl, hw⟩, _⟩ := h
    exact ⟨_, rfl, hw⟩
theorem trod_i {t : TypeId} {k : IntKind} {fuel : Nat} {c : Value} {y : DataW H × List MemPlace} (ht : P.underlying t = some (.int k)) (h : DataW.trod enc P w base spare held fuel t [c] = some y) : ∃ n, c = .int k n := by
  cases fuel with
  | zero => simp [DataW.trod] at h
  | succ n =>
    simp only [DataW.trod, ht] at h
    cases c <;> simp at h
    obtain ⟨⟨rfl, _⟩, _⟩ := h
    exact ⟨_, rfl⟩
end
theorem addr_add {a : Addr} (hs : a.spot = none) (i : Nat) : a.add i = ⟨a.block, a.off + i, none⟩ := by
  unfold Addr.add
  by_cases h0 : i = 0
  · subst h0; cases a; simp_all
  · simp [h0]
section
variable {H : Type} {enc : TypeId × Value → H} {w : World} {spare : Nat → Bool} {held : Bool}
theorem maxLen_le : maxLen ≤ 9223372036854775807 := by decide
set_option maxRecDepth 100000 in
theorem openSpot {fuel : Nat} {cs : List Value} {x : DataW H × List MemPlace} (h : DataW.trod enc Tryd.prog w 0 spare held fuel 54 cs = some x) :
    ∃ a b c, cs = [.float .f32 a, .float .f32 b, .float .f32 c] ∧ a < 4294967296 ∧ b < 4294967296 ∧ c < 4294967296 := by
  obtain ⟨y0, y1, y2, n, _, hl, h0, h1, h2⟩ := trod_struct3 Tryd.underlying54 h
  rw [show Tryd.prog.cellsOf 54 = 3 from by kernel_rfl] at hl
  match cs, hl with
  | [c0, c1, c2], _ =>
    rw [show Tryd.prog.cellsOf 48 = 1 from by kernel_rfl] at h0 h1 h2
    obtain ⟨a, rfl, wa⟩ := trod_float Tryd.underlying48 (by simpa using h0)
    obtain ⟨b, rfl, wb⟩ := trod_float Tryd.underlying48 (by simpa using h1)
    obtain ⟨c, rfl, wc⟩ := trod_float Tryd.underlying48 (by simpa using h2)
    exact ⟨a, b, c, rfl, by simpa [Lit.wf] using wa, by simpa [Lit.wf] using wb, by simpa [Lit.wf] using wc⟩

set_option maxRecDepth 100000 in
theorem openSpots {fuel : Nat} {cs : List Value} {x : DataW H × List MemPlace} (h : DataW.trod enc Tryd.prog w 0 spare held fuel 22 cs = some x) :
    ∃ ao n c ps, cs = [.slice ao n c] ∧ n = ps.length ∧ n ≤ 9223372036854775807 ∧ Sm ps ∧ SlP w 0 w.heap.size ao ps := by
  rcases open_slice Tryd.underlying22 h with ⟨rfl, _⟩ | ⟨a, len, cap, m, n, D, Pl, rfl, _, hlc, hm, hmm, _, hx⟩
  · exact ⟨none, 0, 0, [], rfl, rfl, by omega, fun i h => absurd h (Nat.not_lt_zero _), fun h => absurd h (Nat.not_lt_zero _)⟩
  · have hle : len ≤ m := by rw [hmm]; split <;> omega
    rw [show Tryd.prog.cellsOf 54 = 3 from by kernel_rfl] at hx
    have hsp : 0 < len → a.spot = none := fun hp => by
      obtain ⟨cs', hc, ht⟩ := hx 0 (by omega)
      obtain ⟨_, _, hcell⟩ := World.cells?_some hc
      obtain ⟨u, v, z, rfl, _⟩ := openSpot ht
      have := hcell 0 (by omega)
      exact cells_spot (a := a) (by simpa [Addr.add] using this)
    obtain ⟨f, hf⟩ := choose_lt (α := Nat × Nat × Nat) (n := m) (p := fun i y => (y.1 < 4294967296 ∧ y.2.1 < 4294967296 ∧ y.2.2 < 4294967296) ∧ ∀ (hs : a.spot = none), w.cell? ⟨a.block, a.off + i * 3, none⟩ = some (.float .f32 y.1) ∧ w.cell? ⟨a.block, a.off + i * 3 + 1, none⟩ = some (.float .f32 y.2.1) ∧ w.cell? ⟨a.block, a.off + i * 3 + 2, none⟩ = some (.float .f32 y.2.2)) (fun i hi => by
      obtain ⟨cs', hc, ht⟩ := hx i hi
      obtain ⟨_, _, hcell⟩ := World.cells?_some hc
      obtain ⟨u, v, z, rfl, hw⟩ := openSpot ht
      refine ⟨(u, v, z), hw, fun hs => ?_⟩
      have e0 := hcell 0 (by omega)
      have e1 := hcell 1 (by omega)
      have e2 := hcell 2 (by omega)
      rw [addr_add hs, addr_add (by rfl)] at e0 e1 e2
      exact ⟨by simpa using e0, by simpa [Nat.add_assoc] using e1, by simpa [Nat.add_assoc] using e2⟩)
    have hat : ∀ i, i < len → pAt ((List.range len).map (fun i => (can .f32 (f i).1, can .f32 (f i).2.1, can .f32 (f i).2.2))) i = (can .f32 (f i).1, can .f32 (f i).2.1, can .f32 (f i).2.2) := fun i hi => by simp [pAt, hi]
    refine ⟨some a, len, cap, (List.range len).map (fun i => (can .f32 (f i).1, can .f32 (f i).2.1, can .f32 (f i).2.2)), rfl, by simp, Nat.le_trans hlc (Nat.le_trans hm maxLen_le), fun i hi => ?_, fun hp => ?_⟩
    · simp only [List.length_map, List.length_range] at hi
      rw [hat i hi]
      have := (hf i (by omega)).1
      exact ⟨can_lt _ this.1, can_lt _ this.2.1, can_lt _ this.2.2⟩
    simp only [List.length_map, List.length_range] at hp
    have hs := hsp hp
    refine ⟨a.block, a.off, by cases a; simp_all, Nat.zero_le _, World.block_lt_of_cell? w ⟨a.block, a.off + 0 * 3, none⟩ ((hf 0 (by omega)).2 hs).1, fun i hi => ?_⟩
    simp only [List.length_map, List.length_range] at hi
    obtain ⟨c0, c1, c2⟩ := (hf i (by omega)).2 hs
    exact ⟨_, _, _, c0, c1, c2, by simp [pAt, hi, F32], by simp [pAt, hi, F32], by simp [pAt, hi, F32]⟩

set_option maxRecDepth 100000 in
theorem openSheet {r : Reach} {b0 : Nat} {v : Value} {d : DataW H} {p : List MemPlace} (hv : Value.okWide Tryd.prog w r b0 24 v) (h : DataW.Trod enc Tryd.prog w 0 spare held 24 v d p) :
    ∃ a l ao c ps, v = shV a l ao (List.length ps) c ∧ ps.length ≤ 9223372036854775807 ∧ Sm ps ∧ SlP w 0 w.heap.size ao ps := by
  obtain ⟨v0, v1, v2, y0, y1, y2, n, rfl, _, _, h0, h1, h2⟩ := open_agg3 Tryd.underlying24 (by kernel_rfl) (by kernel_rfl) hv h
  obtain ⟨a, rfl⟩ := trod_i Tryd.underlying2 h0
  obtain ⟨l, rfl⟩ := trod_i Tryd.underlying2 h1
  obtain ⟨sa, n1, c1, ps, e1, rfl, b1, s1, s2⟩ := openSpots h2
  obtain rfl : v2 = _ := by simpa using e1
  exact ⟨a, l, sa, c1, ps, rfl, b1, s1, s2⟩
end

theorem gTz : Tryd.prog.globalNamed "math/bits.deBruijn64tab" = some 4 := by kernel_rfl
/-- the table of trailing zeros -/
def tzTab : List Int := [0, 1, 56, 2, 57, 49, 28, 3, 61, 58, 42, 50, 38, 29, 17, 4, 62, 47, 59, 36, 45, 43, 51, 22, 53, 39, 33, 30, 24, 18, 12, 5, 63, 55, 48, 27, 60, 41, 37, 16, 46, 35, 44, 21, 52, 32, 23, 11, 54, 26, 40, 15, 34, 20, 31, 10, 25, 14, 19, 9, 13, 8, 7, 6]

set_option maxRecDepth 100000 in
theorem st_lifted (os : Os) (started : os.Started) (H : Type) (enc : TypeId × Value → H) :
    ReturnsInHanded {} Tryd.checked os 3 .any (fun w args => (Rows.fnExactSheetTextSpec.pre enc Tryd.prog Tryd.f3 [] false w args ∧ laidMetH Tryd.prog Rows.fnExactSheetTextRow.laid w) ∧ sizedMet enc Tryd.prog Tryd.f3 (OpenSpec.ofChange Rows.fnExactSheetTextSpec) false w args)
      (Rows.fnExactSheetTextSpec.post enc Tryd.prog Tryd.f3 false true false false) := by
  refine returnsInHanded_of_change_and (C := Tryd.checked) (X := fun w _ => laidMetH Tryd.prog Rows.fnExactSheetTextRow.laid w) (fun _ _ _ hh h => h.of_heap hh) ownC started (by kernel_rfl) Tryd.func3
    (ChangeSpec.witness_shaped (enc := enc) (C := Tryd.checked) (os := os) (X := fun w _ => laidMetH Tryd.prog Rows.fnExactSheetTextRow.laid w) false (World.laidAll Tryd.prog os Rows.fnExactSheetTextRow.laid) #[.agg #[.int .i64 0, .int .i64 0, .slice none 0 0]] 8 (World.laidAll_os _ _ _)
      (World.shaped_of_ZipB (by kernel_rfl) (by kernel_rfl)) (by kernel_rfl) (by kernel_rfl) (by kernel_rfl)
      (by rw [MakeChecks.laidMetH_plain _ _ _ (by kernel_rfl)]; exact laidMet_laidAll _ (by kernel_rfl) (by kernel_rfl))) ?_
  intro W base args ds gs before hval0 hW _ _ hX _
  have hval : ∀ (j : Nat) t v, Tryd.f3.params[j]? = some t → args[j]? = some v → Value.okWide Tryd.prog W .any base t v := hval0
  have hW' := hW
  obtain ⟨p, q, hA0, hV, rfl, _, _⟩ := hW
  have hA : DataW.TrodAll enc Tryd.prog W 0 (fun _ => true) true Tryd.f3.params.toList args.toList ds p := hA0
  rw [Tryd.params3] at hA hval
  obtain ⟨v0, d0, rfl, rfl, h0⟩ := trodAll_one hA
  obtain ⟨rfl, rfl⟩ := trodVars_none hV
  have lt0 : ∀ x ∈ p, x.block < W.heap.size := by obtain ⟨m, hm⟩ := h0; exact DataW.trod_lt m _ _ _ hm
  obtain ⟨a, l, ao, c, ps, rfl, hn, hf, hs⟩ := openSheet (hval 0 24 v0 rfl rfl) h0
  clear hA0 hval0
  have hL : laidMet Tryd.prog [("math/bits.deBruijn64tab", Rows.laid_math_bits_deBruijn64tab)] W := by
    have h1 : laidMetH Tryd.prog Rows.fnExactSheetTextRow.laid W := hX
    rw [MakeChecks.laidMetH_plain _ _ _ (by kernel_rfl)] at h1
    exact h1.filter (fun x => x.1 == "math/bits.deBruijn64tab")
  have htab : Lib.TabIs Tryd.prog W "math/bits.deBruijn64tab" .u8 tzTab := Lib.tabIs_of_head (t := 117) (e := 5) (n := 64) gTz (by kernel_rfl) (by kernel_rfl) (by kernel_rfl) (by kernel_rfl) (by kernel_rfl) hL
  have ht : Tz W := htab.cell gTz 15 (by decide)
  refine (lawSt W.heap.size a l ao c ps hn hf W hs (Nat.le_refl _) ht).mono fun e W' ⟨he, bel⟩ => ?_
  subst he
  exact ⟨_, rfl, _, _, _, [], _, [], hW', trodAll_mk1 (shut_bool Tryd.underlying4 _), trodAll_mk1 (Below.trod laidOutC (by kernel_rfl) (of_decide_eq_true (by kernel_rfl)) h0 bel lt0), rfl, bel.frame _, fun h => by cases h⟩

theorem st_row : Rows.FnExactSheetTextSaid :=
  OpenClaim.holds_of_wide 3 Tryd.f3 rfl rfl rfl rfl rfl rfl rfl ⟨rfl, rfl, rfl, rfl, rfl⟩ rfl rfl rfl rfl rfl (by kernel_rfl) Tryd.func3 (by kernel_rfl)
    (of_decide_eq_true (by kernel_rfl)) (by unfold Func.isWrapper; first | (rw [if_pos (by decide +kernel)]; kernel_rfl) | (rw [if_neg (by decide +kernel)]; exact ⟨rfl, rfl⟩))
    (fun os started H enc _ => st_lifted os started H enc)

theorem sheetText_holds : Rows.FnExactSheetTextCardSaid :=
  Claim7.holds_tied_plain_at .later [] [.data, .data, .data] true (true, "39b285dee10a805e2a594933398c39672b049e17a6e405abd35e6e19e7ac093e") false st_row (fun _ h => by cases h) (by kernel_rfl) (fun _ h => by cases h) fnExactSheetText_row_tie rfl ⟨rfl, rfl⟩ (by kernel_rfl) rfl
    (fun f fn hf hfn => by
      obtain rfl : f = 3 := Option.some.inj ((show Tryd.prog.funcNamed "loop.example/g01328/laws.FnExactSheetText" = some 3 by kernel_rfl).symm.trans hf) |>.symm
      obtain rfl : fn = Tryd.f3 := (Option.some.inj (Tryd.func3.symm.trans hfn)).symm
      exact ⟨by kernel_rfl, fun j t ht => by
        rw [Tryd.params3] at ht
        have hm : t ∈ [24] := by simpa using Array.mem_of_getElem? ht
        have hall : ([24].all fun u => !Tryd.prog.wantsStandIn u) = true := by kernel_rfl
        exact (show Tryd.prog.wantsStandIn t = false by simpa using List.all_eq_true.1 hall t hm)⟩)
    (by kernel_rfl)
#print axioms sheetText_holds
end Go.Proofs.YtlpgaekkhlinhaaDoor

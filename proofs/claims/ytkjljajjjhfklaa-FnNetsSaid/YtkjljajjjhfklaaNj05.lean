/- Contracts: whether a net is valid, the reference's whole answer. Maps whose keys are two numbers, the walk's own: what a look-up gives and what a store leaves. Contracts: the small functions of the program that ask whether a net is valid. -/
import Derived.Test.YtkjljajjjhfklaaNj04
import Derived.Test.YtkjljajjjhfklaaChecked
import Derived.Test.YtkjljajjjhfklaaNj01
import Derived.Test.YtkjljajjjhfklaaNj03
import Derived.Maps.OwnSet
import Derived.DeepKeys4
namespace Go.Fl
/-- a valid net -/
structure OkNet (ps : List Sp) (fs : List (List Int)) (A B : List Int) : Prop where
  n3 : 3 ≤ ps.length
  n256 : ps.length ≤ 256
  f1 : 1 ≤ fs.length
  f256 : fs.length ≤ 256
  spots : ps.all finSp = true
  facets : ∀ i, i < fs.length → OkF ps.length (fAt fs i)
  once : ∀ s t, s < t → t < A.length → ¬ (iAt A s = iAt A t ∧ iAt B s = iAt B t)
  used : ∀ v, v < ps.length → ∃ t, t < A.length ∧ iAt A t = v
theorem sideAt_ne {xs ys : List Int} {k s : Nat} (hs : s < k) (hk : k < xs.length) (h1 : iAt xs s = iAt xs k) (h2 : iAt ys s = iAt ys k) : sideAt xs ys (iAt xs k) (iAt ys k) ≠ k := by
  unfold sideAt idx
  have hany : (List.range xs.length).any (fun i => iAt xs i == iAt xs k && iAt ys i == iAt ys k) = true := List.any_eq_true.2 ⟨s, by simp; omega, by simp [h1, h2]⟩
  rw [if_pos hany]
  intro he
  have he2 : (List.range xs.length).findIdx (fun i => iAt xs i == iAt xs k && iAt ys i == iAt ys k) = k := by exact_mod_cast he
  have := (List.findIdx_eq (by simpa using hk)).1 he2
  have h3 := this.2 s (by simpa using hs)
  simp [h1, h2] at h3
theorem sideAt_other {xs ys : List Int} {t : Nat} (ht : t < xs.length) (hne : sideAt xs ys (iAt xs t) (iAt ys t) ≠ t) : ∃ s, s < t ∧ iAt xs s = iAt xs t ∧ iAt ys s = iAt ys t := by
  by_cases h : ∃ s, s < t ∧ iAt xs s = iAt xs t ∧ iAt ys s = iAt ys t
  · exact h
  · exact absurd (sideAt_some ht (fun s hs q => h ⟨s, hs, q⟩) rfl rfl) hne
theorem used_step (A : List Int) (t v i : Nat) (hv : iAt A t = v) : (if i = v then Value.bool true else .bool (dec (∃ s, s < t ∧ iAt A s = (i : Int)))) = .bool (dec (∃ s, s < t + 1 ∧ iAt A s = (i : Int))) := by
  by_cases h : i = v
  · subst h
    rw [if_pos rfl, dec_yes ⟨t, by omega, hv⟩]
  · rw [if_neg h]
    by_cases h2 : ∃ s, s < t ∧ iAt A s = (i : Int)
    · rw [dec_yes h2, dec_yes (by obtain ⟨s, h3, h4⟩ := h2; exact ⟨s, by omega, h4⟩)]
    · rw [dec_no h2, dec_no]
      rintro ⟨s, h3, h4⟩
      by_cases hs : s = t
      · subst hs; rw [hv] at h4; omega
      · exact h2 ⟨s, by omega, h4⟩
end Go.Fl
namespace Go.Proofs.Ytkjljajjjhfklaa
open Go.RowKit Go.Fl
theorem infoB : (Try.prog.info? 4).map (fun i => (i.zero, i.size, i.bytes)) = some (some (.bool false), 1, 1) := by kernel_rfl

/-- all first corners of sides are of the net -/
theorem colA_in {n : Nat} {fs : List (List Int)} (h : ∀ i, i < fs.length → OkF n (fAt fs i)) : ∀ j, j ≤ fs.length → ∀ t, t < (colTo (sideA fs) fs j).length → 0 ≤ iAt (colTo (sideA fs) fs j) t ∧ iAt (colTo (sideA fs) fs j) t < n
  | 0, _, t, ht => by simp [colTo] at ht
  | j + 1, hj, t, ht => by
    have ih := colA_in h j (by omega)
    simp only [colTo, List.length_append, List.length_map, List.length_range] at ht
    by_cases h1 : t < (colTo (sideA fs) fs j).length
    · have := ih t h1
      simp only [colTo]
      have e : iAt (colTo (sideA fs) fs j ++ (List.range (fAt fs j).length).map (sideA fs j)) t = iAt (colTo (sideA fs) fs j) t := by
        simp [iAt, List.getElem?_append_left h1]
      rw [e]; exact this
    · have h2 := (h j (by omega)).2.2 (t - (colTo (sideA fs) fs j).length) (by omega)
      have e : iAt (colTo (sideA fs) fs j ++ (List.range (fAt fs j).length).map (sideA fs j)) t = iAt (fAt fs j) (t - (colTo (sideA fs) fs j).length) := by
        have h3 : t - (colTo (sideA fs) fs j).length < (fAt fs j).length := by omega
        show (List.getD _ t 0) = _
        rw [List.getD_eq_getElem?_getD, List.getElem?_append_right (by omega)]
        simp [h3, sideA]
      simp only [colTo]
      rw [e]
      have h4 := h2.1
      simp only [inB, Bool.and_eq_true, decide_eq_true_eq] at h4
      omega

/-- the two columns of sides -/
abbrev colA (fs : List (List Int)) : List Int := colTo (sideA fs) fs fs.length
abbrev colB (fs : List (List Int)) : List Int := colTo (sideB fs) fs fs.length

end Go.Proofs.Ytkjljajjjhfklaa

namespace Go.Fl
/-- a key of two numbers -/
def keyV (x y : Int) : Value := .agg #[.int .i64 x, .int .i64 y]
theorem keyV_inj {x y x' y' : Int} (h : keyV x y = keyV x' y') : x = x' ∧ y = y' := by
  simp [keyV] at h; exact h
/-- a number of 64 bits -/
def In64 (x : Int) : Prop := -9223372036854775808 ≤ x ∧ x ≤ 9223372036854775807
/-- of the old blocks those of P alone turned from w to w' -/
structure Ch (P : Nat → Prop) (w w' : World) : Prop where
  os : w'.os = w.os
  tape : w'.tape = w.tape
  output : w'.output = w.output
  size : w.heap.size ≤ w'.heap.size
  block : ∀ b, b < w.heap.size → ¬ P b → w'.heap[b]? = w.heap[b]?
theorem Ch.refl (P : Nat → Prop) (w : World) : Ch P w w := ⟨rfl, rfl, rfl, Nat.le_refl _, fun _ _ _ => rfl⟩
theorem Ch.below {P : Nat → Prop} {w w' : World} (h : RowKit.Below w.heap.size w w') : Ch P w w' := ⟨h.os, h.tape, h.output, h.size, fun b hb _ => h.block b hb⟩
theorem Ch.trans {P P' : Nat → Prop} {w w1 w2 : World} (h : Ch P w w1) (k : Ch P' w1 w2) (hp : ∀ b, P' b → P b ∨ w.heap.size ≤ b) : Ch P w w2 :=
  ⟨k.os.trans h.os, k.tape.trans h.tape, k.output.trans h.output, Nat.le_trans h.size k.size, fun b hb hn => (k.block b (Nat.lt_of_lt_of_le hb h.size) (fun hq => by rcases hp b hq with h1 | h1; exact hn h1; omega)).trans (h.block b hb hn)⟩
theorem Ch.toBelow {P : Nat → Prop} {w w' : World} {B : Nat} (h : Ch P w w') (hB : B ≤ w.heap.size) (hp : ∀ b, P b → B ≤ b) : RowKit.Below B w w' :=
  ⟨h.os, h.tape, h.output, h.size, fun b hb => h.block b (by omega) (fun hq => by have := hp b hq; omega)⟩
theorem Ch.far {P : Nat → Prop} {w w' : World} {lo hi : Nat} (h : Ch P w w') (hh : hi ≤ w.heap.size) (hp : ∀ b, lo ≤ b → b < hi → ¬ P b) : Far lo hi w w' := fun b h1 h2 => h.block b (by omega) (hp b h1 h2)
theorem Ch.cell {P : Nat → Prop} {w w' : World} (h : Ch P w w') {b o : Nat} {v : Value} (hc : w.cell? ⟨b, o, none⟩ = some v) (hp : ¬ P b) : w'.cell? ⟨b, o, none⟩ = some v :=
  (World.cell?_of_block (w := w) (a := ⟨b, o, none⟩) (h.block b (World.block_lt_of_cell? w _ hc) hp)).trans hc
theorem Ch.own {P : Nat → Prop} {w w' : World} {b : Nat} {cs : Array Value} {T : TypeId} (h : Ch P w w') (hc : OwnC w b cs T) (hp : ¬ P b) : OwnC w' b cs T := (h.block b hc.lt hp).trans hc
theorem Ch.grew {P : Nat → Prop} {w w' : World} {b : Nat} (h : Grew b w w') (hp : P b) : Ch P w w' := ⟨h.os, h.tape, h.output, h.size, fun c hc hn => h.block c hc (fun e => hn (e ▸ hp))⟩
theorem Ch.set {P : Nat → Prop} (w : World) (a : Addr) (v : Value) (hp : P a.block) : Ch P w (w.setCell a v) := ⟨rfl, rfl, rfl, by simp, fun b _ hn => RowKit.Below.heap_setCell _ _ _ _ (fun e => hn (e ▸ hp))⟩
theorem Ch.drewN (P : Nat → Prop) (w : World) (n : Nat) : Ch P w (w.drewN n) := ⟨rfl, rfl, rfl, Nat.le_refl _, fun _ _ _ => rfl⟩
theorem Ch.mono {P P' : Nat → Prop} {w w' : World} (h : Ch P w w') (hp : ∀ b, P b → P' b) : Ch P' w w' := ⟨h.os, h.tape, h.output, h.size, fun b hb hn => h.block b hb (fun q => hn (hp b q))⟩

/-- block b is a map of at most n entries: f tells its entry at each key -/
def OMap (w : World) (b n : Nat) (f : Int → Int → Option Value) : Prop :=
  ∃ es clock, w.heap[b]? = some (.map es clock) ∧ es.size ≤ n ∧ (∀ e ∈ es.toList, ∃ x y, In64 x ∧ In64 y ∧ e.key = keyV x y) ∧ es.toList.Pairwise (fun p q => p.key ≠ q.key) ∧ ∀ x y v, f x y = some v ↔ ∃ e ∈ es.toList, e.key = keyV x y ∧ e.val = v
theorem OMap.lt {w : World} {b n : Nat} {f : Int → Int → Option Value} (h : OMap w b n f) : b < w.heap.size := by
  obtain ⟨es, clock, hb, _⟩ := h
  exact (Array.getElem?_eq_some_iff.1 hb).1
theorem OMap.of_block {w w' : World} {b n : Nat} {f : Int → Int → Option Value} (h : OMap w b n f) (hb : w'.heap[b]? = w.heap[b]?) : OMap w' b n f := by
  obtain ⟨es, clock, h1, r⟩ := h
  exact ⟨es, clock, hb.trans h1, r⟩
theorem OMap.below {w w' : World} {b n B : Nat} {f : Int → Int → Option Value} (h : OMap w b n f) (hb : RowKit.Below B w w') (hl : b < B) : OMap w' b n f := h.of_block (hb.block b hl)
theorem OMap.made (w : World) : OMap (w.alloc (.map #[] 0)) w.heap.size 0 (fun _ _ => none) :=
  ⟨#[], 0, (MapKept.heap_alloc w _).1, Nat.le_refl _, by simp, by simp, by simp⟩
end Go.Fl
namespace Go.Proofs.Ytkjljajjjhfklaa
open Go.RowKit Go.Fl Go.MapKept
open Go.Maps (Keyed)
theorem laidOut' : laidOutB Try.prog = true := by kernel_rfl
theorem keyed : Keyed Try.prog 68 := Keyed.of_law (deep_law_laid laidOut' (m := 2) (by omega) (of_decide_eq_true (by kernel_rfl)) (by kernel_rfl) (by kernel_rfl))
theorem keyC : Try.prog.cellsOf 68 = 2 := by kernel_rfl
theorem keyI : Try.prog.cellsOf 2 = 1 := by kernel_rfl
theorem keyT : Try.prog.keyType 68 = true := by kernel_rfl
theorem typesN : ∃ n, Try.prog.types.size = n + 1 := ⟨Try.prog.types.size - 1, by kernel_rfl⟩
theorem wf64 {x : Int} (h : In64 x) : (Lit.int .i64 x).wf = true := by
  unfold In64 at h
  simp [Lit.wf, IntKind.wrap, IntKind.min, IntKind.max, IntKind.bits, IntKind.signed]
  omega
theorem keyOf_keyV {x y : Int} (hx : In64 x) (hy : In64 y) : ∃ l, keyOf Try.prog 68 (keyV x y) = some l := by
  obtain ⟨n, hn⟩ := typesN
  refine ⟨.string (keyBytes [.int .i64 x, .int .i64 y]), ?_⟩
  have hl : ∀ z, In64 z → Try.prog.keyLits n 2 [.int .i64 z] = some [.int .i64 z] := by
    intro z hz
    obtain ⟨m, rfl⟩ : ∃ m, n = m + 1 := ⟨n - 1, by have h : Try.prog.types.size = (Try.prog.types.size - 2) + 2 := by kernel_rfl
                                                   omega⟩
    simp [Program.keyLits, Try.underlying2, wf64 hz]
  simp [keyOf, Try.underlying68, keyT, hn, Value.formed, keyV, keyC, keyI, Program.keyLits, Value.cells, hl x hx, hl y hy, wf64 hx, wf64 hy, show List.range 2 = [0, 1] from rfl]

theorem ne_key {es : Array MapEntry} {kv : Value} {P : MapEntry → Prop} (h : ∀ e ∈ es.toList, e.key ≠ kv) : ¬ ∃ e ∈ es.toList, e.key = kv ∧ P e := fun ⟨e, h1, h2, _⟩ => h e h1 h2
theorem keysOk {es : Array MapEntry} (h : ∀ e ∈ es.toList, ∃ x y, In64 x ∧ In64 y ∧ e.key = keyV x y) : ∀ e ∈ es.toList, ∃ l, keyOf Try.prog 68 e.key = some l := fun e he => by
  obtain ⟨x, y, hx, hy, hk⟩ := h e he
  rw [hk]; exact keyOf_keyV hx hy

/-- a look-up -/
theorem omap_look {w : World} {b n : Nat} {f : Int → Int → Option Value} (h : OMap w b n f) {t e : TypeId} (ht : Try.prog.underlying t = some (.map 68 e)) {z : Value} (hz : (zeroValue e).run Try.prog w = .ok z w) (c : Bool) {x y : Int} (hx : In64 x) (hy : In64 y) :
    (Instr.lookup t (.map (some b)) (keyV x y) c).run Try.prog w = .ok (if c then .tuple #[(f x y).getD z, .bool (f x y).isSome] else (f x y).getD z) w := by
  obtain ⟨es, clock, hb, hsz, hk, hd, hf⟩ := h
  obtain ⟨kl, hkl⟩ := keyOf_keyV hx hy
  rcases keyed.find w hkl es.toList (keysOk hk) with ⟨h1, h2⟩ | ⟨j, e0, h1, h2, h3⟩
  · have : f x y = none := by
      cases hv : f x y with
      | none => rfl
      | some v => exact absurd ((hf x y v).1 hv) (ne_key h2)
    rw [this]
    cases c <;> simp [Instr.lookup, run_underlying ht, MapKept.run_getObj_map hb, keyed.check w _ hkl, h1, hz, Result.andThen]
  · have : f x y = some e0.val := (hf x y _).2 ⟨e0, List.mem_of_getElem? h2, h3, rfl⟩
    rw [this]
    cases c <;> simp [Instr.lookup, run_underlying ht, MapKept.run_getObj_map hb, keyed.check w _ hkl, h1, hz, Result.andThen]

/-- the table with one entry more, or another one -/
def put2 (f : Int → Int → Option Value) (x y : Int) (v : Value) : Int → Int → Option Value := fun a b => if a = x ∧ b = y then some v else f a b

/-- a store -/
theorem omap_store {w : World} {b n : Nat} {f : Int → Int → Option Value} (h : OMap w b n f) {t e : TypeId} (ht : Try.prog.underlying t = some (.map 68 e)) {x y : Int} (hx : In64 x) (hy : In64 y) (v : Value) :
    ∃ w', (Instr.mapUpdate t (.map (some b)) (keyV x y) v).run Try.prog w = .ok () w' ∧ OMap w' b (n + 1) (put2 f x y v) ∧ Grew b w w' := by
  obtain ⟨es, clock, hb, hsz, hk, hd, hf⟩ := h
  obtain ⟨kl, hkl⟩ := keyOf_keyV hx hy
  rcases keyed.find w hkl es.toList (keysOk hk) with ⟨h1, h2⟩ | ⟨j, e0, h1, h2, h3⟩
  · refine ⟨ChangeMaps.setBlock w b (.map (es.push ⟨keyV x y, v, clock⟩) (clock + 1)), ?_, ⟨_, _, ChangeMaps.heap_setBlock_same hb _, by simp; omega, ?_, ?_, ?_⟩, ⟨rfl, rfl, rfl, by simp [ChangeMaps.setBlock], fun i hi hne => ChangeMaps.heap_setBlock_other hb _ hne⟩⟩
    · simp [Instr.mapUpdate, run_underlying ht, MapKept.run_getObj_map hb, keyed.check w _ hkl, h1, MapKept.run_setObj_map _ hb, Result.andThen, ChangeMaps.setBlock]
    · intro e he
      simp at he
      rcases he with he | rfl
      · exact hk e (by simpa using he)
      · exact ⟨x, y, hx, hy, rfl⟩
    · simp only [Array.toList_push, List.pairwise_append]
      refine ⟨hd, by simp, fun p hp q hq => ?_⟩
      simp at hq; subst hq; exact h2 p hp
    · intro a c v'
      unfold put2
      by_cases hac : a = x ∧ c = y
      · obtain ⟨rfl, rfl⟩ := hac
        rw [if_pos ⟨rfl, rfl⟩]
        constructor
        · intro hv; cases hv; exact ⟨⟨keyV a c, v, clock⟩, by simp, rfl, rfl⟩
        · rintro ⟨e, he, hke, rfl⟩
          simp at he
          rcases he with he | rfl
          · exact absurd hke (h2 e (by simpa using he))
          · rfl
      · rw [if_neg hac, hf]
        constructor
        · rintro ⟨e, he, hke, hv⟩; exact ⟨e, by simp; left; simpa using he, hke, hv⟩
        · rintro ⟨e, he, hke, hv⟩
          simp at he
          rcases he with he | rfl
          · exact ⟨e, by simpa using he, hke, hv⟩
          · exact absurd (keyV_inj hke) (fun q => hac ⟨q.1.symm, q.2.symm⟩)
  · have hj : j < es.size := by
      have := (List.getElem?_eq_some_iff.1 h2).1; simpa using this
    have hje : es[j] = e0 := by
      have := (List.getElem?_eq_some_iff.1 h2).2; simpa using this
    have hmod : es.modify j (fun e => { e with key := keyV x y, val := v }) = es.set j ⟨keyV x y, v, e0.born⟩ hj := by
      apply Array.ext
      · simp
      · intro i hi1 hi2
        rw [Array.getElem_modify, Array.getElem_set]
        by_cases hij : j = i
        · subst hij; simp [hje]
        · simp [hij]
    have hmem : ∀ e, e ∈ (es.set j ⟨keyV x y, v, e0.born⟩ hj).toList ↔ e = ⟨keyV x y, v, e0.born⟩ ∨ (e ∈ es.toList ∧ e.key ≠ keyV x y) := by
      intro e
      have hpw := List.pairwise_iff_getElem.1 hd
      constructor
      · intro he
        obtain ⟨i, hi, rfl⟩ := List.getElem_of_mem he
        simp at hi
        by_cases hij : j = i
        · subst hij; left; simp
        · right
          have : (es.set j ⟨keyV x y, v, e0.born⟩ hj).toList[i] = es.toList[i] := by simp [Array.getElem_set, hij]
          rw [this]
          refine ⟨List.getElem_mem _, ?_⟩
          intro hq
          rcases Nat.lt_or_ge j i with hlt | hge
          · exact hpw j i (by simpa using hj) (by simpa using hi) hlt (by simp only [Array.getElem_toList] at *; rw [hje, h3, hq])
          · exact hpw i j (by simpa using hi) (by simpa using hj) (by omega) (by simp only [Array.getElem_toList] at *; rw [hje, h3, hq])
      · rintro (rfl | ⟨he, hne⟩)
        · exact List.mem_iff_getElem.2 ⟨j, by simpa using hj, by simp⟩
        · obtain ⟨i, hi, rfl⟩ := List.getElem_of_mem he
          have hij : j ≠ i := by rintro rfl; exact hne (by simp only [Array.getElem_toList] at *; rw [hje, h3])
          exact List.mem_iff_getElem.2 ⟨i, by simpa using hi, by simp [Array.getElem_set, hij]⟩
    refine ⟨ChangeMaps.setBlock w b (.map (es.set j ⟨keyV x y, v, e0.born⟩ hj) clock), ?_, ⟨_, _, ChangeMaps.heap_setBlock_same hb _, by simp; omega, ?_, ?_, ?_⟩, ⟨rfl, rfl, rfl, by simp [ChangeMaps.setBlock], fun i hi hne => ChangeMaps.heap_setBlock_other hb _ hne⟩⟩
    · rw [← hmod]
      have hst := keyed.stays w hkl
      simp [Instr.mapUpdate, run_underlying ht, MapKept.run_getObj_map hb, keyed.check w _ hkl, h1, hj, hje, h3, hst, MapKept.run_setObj_map _ hb, Result.andThen, ChangeMaps.setBlock]
    · intro e he
      rcases (hmem e).1 he with rfl | ⟨he, _⟩
      · exact ⟨x, y, hx, hy, rfl⟩
      · exact hk e he
    · rw [List.pairwise_iff_getElem]
      have hpw := List.pairwise_iff_getElem.1 hd
      intro i k hi hk' hik
      simp at hi hk'
      have hke : ∀ i (hi : i < es.size), ((es.set j ⟨keyV x y, v, e0.born⟩ hj).toList[i]'(by simpa using hi)).key = es[i].key := by
        intro i hi
        simp only [Array.getElem_toList, Array.getElem_set]
        by_cases hij : j = i
        · subst hij; simp [hje, h3]
        · simp [hij]
      rw [hke i hi, hke k hk']
      exact hpw i k (by simpa using hi) (by simpa using hk') hik
    · intro a c v'
      unfold put2
      by_cases hac : a = x ∧ c = y
      · obtain ⟨rfl, rfl⟩ := hac
        rw [if_pos ⟨rfl, rfl⟩]
        constructor
        · intro hv; cases hv; exact ⟨_, (hmem _).2 (.inl rfl), rfl, rfl⟩
        · rintro ⟨e, he, hke, rfl⟩
          rcases (hmem e).1 he with rfl | ⟨_, hne⟩
          · rfl
          · exact absurd hke hne
      · rw [if_neg hac, hf]
        constructor
        · rintro ⟨e, he, hke, hv⟩
          exact ⟨e, (hmem e).2 (.inr ⟨he, fun q => hac (by have := keyV_inj (hke.symm.trans q); exact this)⟩), hke, hv⟩
        · rintro ⟨e, he, hke, hv⟩
          rcases (hmem e).1 he with rfl | ⟨he, _⟩
          · exact absurd (keyV_inj hke) (fun q => hac ⟨q.1.symm, q.2.symm⟩)
          · exact ⟨e, he, hke, hv⟩

theorem wpList_look {ops : Array Oper} {rest : List Oper} {o : Oper} {a : Act} {Q : Exit → Act → World → Prop} (w : World) (hg : Region.wanted o (yielded ops a.tmps) = true) (m x : Operand) (t : TypeId) (c : Bool) (hop : o.op = Op.lookup t m x c)
    (e : TypeId) (ht : Try.prog.underlying t = some (.map 68 e)) (z : Value) (hz : (zeroValue e).run Try.prog w = .ok z w) (b n : Nat) (f : Int → Int → Option Value) (hm : a.eval m = .map (some b)) (hown : OMap w b n f) (p q : Int) (hx : a.eval x = keyV p q) (hp : In64 p) (hq : In64 q)
    (hK : wpList Try.prog ops Q rest (a.put o.dst (if c then .tuple #[(f p q).getD z, .bool (f p q).isSome] else (f p q).getD z)) w) :
    wpList Try.prog ops Q (o :: rest) a w :=
  wpList_step fun K' hK' => by
    rw [if_pos hg]
    unfold Oper.wp
    simp [execOp, hop, hm, hx, omap_look hown ht hz c hp hq, Result.andThen]
    exact hK' _ _ hK
theorem wpList_store {ops : Array Oper} {rest : List Oper} {o : Oper} {a : Act} {Q : Exit → Act → World → Prop} (w : World) (hg : Region.wanted o (yielded ops a.tmps) = true) (m x v : Operand) (t : TypeId) (hop : o.op = Op.mapUpdate t m x v)
    (e : TypeId) (ht : Try.prog.underlying t = some (.map 68 e)) (b n : Nat) (f : Int → Int → Option Value) (hm : a.eval m = .map (some b)) (hown : OMap w b n f) (p q : Int) (hx : a.eval x = keyV p q) (hp : In64 p) (hq : In64 q)
    (hK : ∀ w1, OMap w1 b (n + 1) (put2 f p q (a.eval v)) → Grew b w w1 → wpList Try.prog ops Q rest (a.put o.dst undef) w1) :
    wpList Try.prog ops Q (o :: rest) a w :=
  wpList_step fun K' hK' => by
    rw [if_pos hg]
    obtain ⟨w', hrun, h1, h2⟩ := omap_store hown ht hp hq (a.eval v)
    unfold Oper.wp
    simp [execOp, hop, hm, hx, hrun, Result.andThen]
    exact hK' _ _ (hK w' h1 h2)
end Go.Proofs.Ytkjljajjjhfklaa

namespace Go.Fl
theorem dec_iff {p q : Prop} (h : p ↔ q) : dec p = dec q := by rw [propext h]
theorem dec_decide {p : Prop} [Decidable p] {q : Prop} (h : p ↔ q) : decide p = dec q := by
  by_cases hp : p
  · rw [decide_eq_true hp, dec_yes (h.1 hp)]
  · rw [decide_eq_false hp, dec_no (fun hq => hp (h.2 hq))]
/-- is x among the first n? -/
def Has (xs : List Int) (n : Nat) (x : Int) : Prop := ∃ s, s < n ∧ iAt xs s = x
end Go.Fl
namespace Go.Proofs.Ytkjljajjjhfklaa
open Go.RowKit Go.Fl

theorem within (x lo hi : Int) (w : World) : Calls Try.prog 52 #[.int .i64 x, .int .i64 lo, .int .i64 hi] w fun e w' => e = .returned (.bool (inB x lo hi)) ∧ w' = w := by
  by_cases h1 : lo ≤ x
  all_goals by_cases h2 : x ≤ hi
  all_goals
    go_enter Try.func52, Try.ntmps52
    go_wp2_with fail
    go_ret
    exact ⟨ret_bool (by simp [inB, h1, h2]), rfl⟩

set_option maxHeartbeats 1000000 in
theorem isSpot (x y z : Nat) (w : World) : Calls Try.prog 48 #[spV x y z] w fun e w' => e = .returned (.bool (finSp (can .f32 x, can .f32 y, can .f32 z))) ∧ Below w.heap.size w w' := by
  unfold spV
  go_enter Try.func48, Try.ntmps48
  go_wp2_with (go_at_call 62; refine (areFinite [x, y, z] _ _ (slF_new _ [x, y, z] _ _ _ (by simp) (by simp) _ rfl rfl)).mono ?_; rintro e w' ⟨rfl, n, rfl⟩)
  go_ret
  refine ⟨ret_bool (by simp [finSp, List.all_cons, Bool.and_assoc]), by (repeat (first | exact Below.refl _ _ | assumption | refine below_dr ?_ _ | refine Below.alloc ?_ (by first | omega | (simp; done) | (simp; omega)) _ | refine Below.setCell ?_ (by first | omega | (simp; done) | (simp; omega)) _ | refine Below.trans ?_ (Below.mono (by assumption) (by first | omega | (simp; done) | (simp; omega)))))⟩
theorem areSpots1 (x y z : Nat) (w : World) : Calls Try.prog 82 #[spV x y z] w fun e w' => e = .returned (.bool (!finSp (can .f32 x, can .f32 y, can .f32 z))) ∧ Below w.heap.size w w' := by
  have hs : ∀ w, Calls Try.prog 48 #[.agg #[.float .f32 x, .float .f32 y, .float .f32 z]] w fun e w' => e = .returned (.bool (finSp (can .f32 x, can .f32 y, can .f32 z))) ∧ Below w.heap.size w w' := isSpot x y z
  have HS := Lib.hid hs
  clear hs
  unfold spV
  go_enter Try.func82, Try.ntmps82
  go_wp2_with (go_at_call 48; refine (HS.out _).mono ?_; rintro e w' ⟨rfl, hb⟩)
  go_ret
  exact ⟨rfl, Below.trans (by (repeat (first | exact Below.refl _ _ | assumption | refine below_dr ?_ _ | refine Below.alloc ?_ (by first | omega | (simp; done) | (simp; omega)) _ | refine Below.setCell ?_ (by first | omega | (simp; done) | (simp; omega)) _ | refine Below.trans ?_ (Below.mono (by assumption) (by first | omega | (simp; done) | (simp; omega)))))) (hb.mono (by simp))⟩

set_option maxHeartbeats 1000000 in
theorem indexSpots (lo hi : Nat) (ao : Option Addr) (c : Nat) (ps : List Sp) (hn : ps.length ≤ 1048576) (w : World) (hs : SlP w lo hi ao ps) (hh : hi ≤ w.heap.size) :
    Calls Try.prog 88 #[.slice ao ps.length c, .func (.func 82) #[] #[]] w fun e w' => e = .returned (.int .i64 (idx (fun p => !finSp p) ps)) ∧ Below w.heap.size w w' := by
  have HS := Lib.hid hs
  clear hs
  go_enter Try.func88, Try.ntmps88
  go_wp2_with fail
  go_loopw [8] (fun i wr => ∃ k : Nat, k ≤ ps.length ∧ i = .int .i64 k ∧ Hid (Below w.heap.size w wr) ∧ Hid ((ps.take k).any (fun p => !finSp p) = false)) (fun i _ => ps.length - (intOf i).toNat)
  case atStart => exact ⟨0, by omega, rfl, Below.refl _ _, rfl⟩
  case round =>
    obtain ⟨k, hk, rfl, HW, HA⟩ := hrel
    by_cases hlt : k < ps.length
    · obtain ⟨b1, o1, rfl, _, q1, hc1⟩ := HS.out.far (Far.below HW.out hh) (by omega)
      obtain ⟨x, y, z, c1, c2, c3, f1, f2, f3⟩ := hc1 k hlt
      have hp : (can .f32 x, can .f32 y, can .f32 z) = ps[k] := by
        have : ps[k] = pAt ps k := by simp [pAt, hlt]
        rw [show can .f32 x = _ from f1, show can .f32 y = _ from f2, show can .f32 z = _ from f3, this]
      have HP := Lib.hid hp
      have HI := Lib.hid (idx_some (p := fun p => !finSp p) hlt HA.out)
      have HN := Lib.hid (any_snoc (p := fun p => !finSp p) hlt HA.out)
      clear hc1 f1 f2 f3 hp
      have k0 : (0 : Int) ≤ (k : Int) := by omega
      have k1 : (k : Int) < (ps.length : Int) := by omega
      cases hfin : finSp ps[k]
      all_goals
        have HF := Lib.hid hfin
        clear hfin
        go_wp2_with (go_at_call 82; refine (areSpots1 x y z _).mono ?_; rintro e w3 ⟨rfl, hb3⟩; rw [HP.out, HF.out])
      · go_ret
        exact ⟨ret_int (HI.out (by simp [HF.out])).symm, HW.out.trans (hb3.mono HW.out.size)⟩
      · go_roundw
        case rel => exact ⟨k + 1, by omega, by go_num, HW.out.trans (hb3.mono HW.out.size), HN.out (by simp [HF.out])⟩
        case measure => simp [intOf]; omega
    · go_wp2_with fail
      go_ret
      refine ⟨ret_int ?_, HW.out⟩
      have := HA.out
      rw [List.take_of_length_le (by omega)] at this
      exact (idx_none this).symm

theorem containsSpots (lo hi : Nat) (ao : Option Addr) (c : Nat) (ps : List Sp) (hn : ps.length ≤ 1048576) (w : World) (hs : SlP w lo hi ao ps) (hh : hi ≤ w.heap.size) :
    Calls Try.prog 81 #[.slice ao ps.length c, .func (.func 82) #[] #[]] w fun e w' => e = .returned (.bool (ps.any fun p => !finSp p)) ∧ Below w.heap.size w w' := by
  have HS := Lib.hid hs
  clear hs
  go_enter Try.func81, Try.ntmps81
  go_wp2_with fail
  refine (indexSpots lo hi ao c ps hn _ HS.out hh).mono ?_
  rintro e w' ⟨rfl, hb⟩
  go_wp2_with fail
  go_ret
  exact ⟨ret_bool (idx_ge _ ps), hb⟩
set_option maxRecDepth 100000 in
theorem areSpots (lo hi : Nat) (ao : Option Addr) (c : Nat) (ps : List Sp) (hn : ps.length ≤ 1048576) (w : World) (hs : SlP w lo hi ao ps) (hh : hi ≤ w.heap.size) :
    Calls Try.prog 67 #[.slice ao ps.length c] w fun e w' => e = .returned (.bool (ps.all finSp)) ∧ Below w.heap.size w w' := by
  have HS := Lib.hid hs
  clear hs
  go_enter Try.func67, Try.ntmps67
  go_wp2_with fail
  refine (containsSpots lo hi ao c ps hn _ HS.out hh).mono ?_
  rintro e w' ⟨rfl, hb⟩
  go_wp2_with fail
  go_ret
  exact ⟨ret_bool (any_not _ _), hb⟩

set_option maxHeartbeats 1000000 in
theorem indexI (lo hi n : Nat) (ao : Option Addr) (c : Nat) (xs : List Int) (v : Int) (hn : n ≤ 1048576) (hx : n ≤ xs.length) (w : World) (hs : SlI w lo hi ao xs) :
    Calls Try.prog 83 #[.slice ao n c, .int .i64 v] w fun e w' => (∃ r, e = .returned (.int .i64 r) ∧ (0 ≤ r ↔ Has xs n v)) ∧ w' = w := by
  have HS := Lib.hid hs
  clear hs
  go_enter Try.func83, Try.ntmps83
  go_wp2_with fail
  go_loopw [8] (fun i wr => ∃ k : Nat, k ≤ n ∧ i = .int .i64 k ∧ Hid (wr = w) ∧ Hid (¬ Has xs k v)) (fun i _ => n - (intOf i).toNat)
  case atStart => exact ⟨0, by omega, rfl, rfl, fun ⟨s, h, _⟩ => absurd h (Nat.not_lt_zero _)⟩
  case round =>
    obtain ⟨k, hk, rfl, HW, HA⟩ := hrel
    have := HW.out
    subst this
    by_cases hlt : k < n
    · obtain ⟨b1, o1, rfl, _, q1, hc1⟩ := HS.out (by omega)
      have c1 := hc1 k (by omega)
      clear hc1
      have k0 : (0 : Int) ≤ (k : Int) := by omega
      have k1 : (k : Int) < (n : Int) := by omega
      by_cases he : iAt xs k = v
      · have HE := Lib.hid he
        go_wp2_with fail
        go_ret
        exact ⟨⟨_, rfl, by simp; exact ⟨k, by omega, HE.out⟩⟩, rfl⟩
      · have HE := Lib.hid he
        go_wp2_with fail
        go_roundw
        case rel =>
          refine ⟨k + 1, by omega, by go_num, Lib.hid trivial, ?_⟩
          rintro ⟨s, h1, h2⟩
          by_cases hsk : s = k
          · subst hsk; exact HE.out h2
          · exact HA.out ⟨s, by omega, h2⟩
        case measure => simp [intOf]; omega
    · have hkn : k = n := by omega
      subst hkn
      go_wp2_with fail
      go_ret
      exact ⟨⟨_, rfl, ⟨fun h => by omega, fun h => absurd h HA.out⟩⟩, rfl⟩
theorem containsI (lo hi n : Nat) (ao : Option Addr) (c : Nat) (xs : List Int) (v : Int) (hn : n ≤ 1048576) (hx : n ≤ xs.length) (w : World) (hs : SlI w lo hi ao xs) :
    Calls Try.prog 68 #[.slice ao n c, .int .i64 v] w fun e w' => e = .returned (.bool (dec (Has xs n v))) ∧ w' = w := by
  have HS := Lib.hid hs
  clear hs
  go_enter Try.func68, Try.ntmps68
  go_wp2_with fail
  refine (indexI lo hi n ao c xs v hn hx _ HS.out).mono ?_
  rintro e w' ⟨⟨r, rfl, hr⟩, rfl⟩
  have HR := Lib.hid hr
  clear hr
  go_wp2_with fail
  go_ret
  exact ⟨ret_bool (dec_decide HR.out), rfl⟩

set_option maxHeartbeats 1000000 in
theorem indexB (b n c T : Nat) (p : Nat → Bool) (hn : n ≤ 1048576) (w : World) (hs : w.rowIs b T n (fun v => .bool (p v))) :
    Calls Try.prog 84 #[.slice (some ⟨b, 0, none⟩) n c, .bool false] w fun e w' => (∃ r, e = .returned (.int .i64 r) ∧ (0 ≤ r ↔ ∃ s, s < n ∧ p s = false)) ∧ w' = w := by
  have HS := Lib.hid hs
  clear hs
  go_enter Try.func84, Try.ntmps84
  go_wp2_with fail
  go_loopw [8] (fun i wr => ∃ k : Nat, k ≤ n ∧ i = .int .i64 k ∧ Hid (wr = w) ∧ Hid (¬ ∃ s, s < k ∧ p s = false)) (fun i _ => n - (intOf i).toNat)
  case atStart => exact ⟨0, by omega, rfl, rfl, fun ⟨s, h, _⟩ => absurd h (Nat.not_lt_zero _)⟩
  case round =>
    obtain ⟨k, hk, rfl, HW, HA⟩ := hrel
    have := HW.out
    subst this
    by_cases hlt : k < n
    · have c1 := HS.out.cell hlt
      have k0 : (0 : Int) ≤ (k : Int) := by omega
      have k1 : (k : Int) < (n : Int) := by omega
      cases he : p k
      · have HE := Lib.hid he
        rw [he] at c1
        clear he
        go_wp2_with fail
        go_ret
        exact ⟨⟨_, rfl, by simp; exact ⟨k, by omega, HE.out⟩⟩, rfl⟩
      · have HE := Lib.hid he
        rw [he] at c1
        clear he
        go_wp2_with fail
        go_roundw
        case rel =>
          refine ⟨k + 1, by omega, by go_num, Lib.hid trivial, ?_⟩
          rintro ⟨s, h1, h2⟩
          by_cases hsk : s = k
          · subst hsk; rw [HE.out] at h2; cases h2
          · exact HA.out ⟨s, by omega, h2⟩
        case measure => simp [intOf]; omega
    · have hkn : k = n := by omega
      subst hkn
      go_wp2_with fail
      go_ret
      exact ⟨⟨_, rfl, ⟨fun h => by omega, fun h => absurd h HA.out⟩⟩, rfl⟩
theorem containsB (b n c T : Nat) (p : Nat → Bool) (hn : n ≤ 1048576) (w : World) (hs : w.rowIs b T n (fun v => .bool (p v))) :
    Calls Try.prog 71 #[.slice (some ⟨b, 0, none⟩) n c, .bool false] w fun e w' => e = .returned (.bool (dec (∃ s, s < n ∧ p s = false))) ∧ w' = w := by
  have HS := Lib.hid hs
  clear hs
  go_enter Try.func71, Try.ntmps71
  go_wp2_with fail
  refine (indexB b n c T p hn _ HS.out).mono ?_
  rintro e w' ⟨⟨r, rfl, hr⟩, rfl⟩
  have HR := Lib.hid hr
  clear hr
  go_wp2_with fail
  go_ret
  exact ⟨ret_bool (dec_decide HR.out), rfl⟩
end Go.Proofs.Ytkjljajjjhfklaa

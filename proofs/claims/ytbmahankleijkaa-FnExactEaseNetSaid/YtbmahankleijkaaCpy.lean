/- Contracts: copies of slices, and of facets, the program's. -/
import Derived.Test.YtbmahankleijkaaSprd
import Derived.Test.YtbmahankleijkaaFpB
import Derived.Test.YtbmahankleijkaaTo
import Derived.Test.YtbmahankleijkaaVal
namespace Go.Fl
theorem ORow.cap {w : World} {e : TypeId} {size b cap n : Nat} {cs : List Value} (h : ORow w e size b cap n cs) : n ≤ cap := by
  obtain ⟨hl, hr⟩ := h
  rcases hr with ⟨hn, _⟩ | ⟨g, c, cur, hv, hb, hg, h1, _⟩
  · cases hn
  · have : cap = c := by simpa using (Value.slice.inj hv).2.2
    omega
theorem ints_one {xs : List Int} : ∀ u ∈ xs.map (Value.int .i64), u.oneCell' = true := fun u hu => by
  obtain ⟨x, _, rfl⟩ := List.mem_map.1 hu
  rfl
/-- the cells of spots that a slice holds -/
theorem SlP.news {w : World} {lo hi b off : Nat} {ps : List Sp} (h : SlP w lo hi (some ⟨b, off, none⟩) ps) : ∃ cs : List Value, cs.length = ps.length * 3 ∧ SpL cs ps ∧ (∀ u ∈ cs, u.oneCell' = true) ∧ ∀ j u, cs[j]? = some u → w.cell? ((⟨b, off, none⟩ : Addr).add j) = some u := by
  have key : ∀ m, m ≤ ps.length → ∃ cs : List Value, cs.length = m * 3 ∧ SpL cs (ps.take m) ∧ (∀ u ∈ cs, u.oneCell' = true) ∧ ∀ j u, cs[j]? = some u → w.cell? ⟨b, off + j, none⟩ = some u := by
    intro m
    induction m with
    | zero => exact fun _ => ⟨[], rfl, by simpa using SpL.nil, (fun u hu => by cases hu), (fun j u hu => by simp at hu)⟩
    | succ m ih =>
      intro hm
      obtain ⟨cs, h1, h2, h3, h4⟩ := ih (by omega)
      obtain ⟨b', off', e, _, _, hc⟩ := h (by omega)
      cases e
      obtain ⟨x, y, z, c1, c2, c3, g1, g2, g3⟩ := hc m (by omega)
      refine ⟨cs ++ [.float .f32 x, .float .f32 y, .float .f32 z], by simp [h1]; omega, ?_, ?_, ?_⟩
      · rw [take_snoc (by omega)]
        exact h2.snoc (by rw [h1, List.length_take, Nat.min_eq_left (by omega)]) (IsSp.of g1 g2 g3)
      · intro u hu
        rcases List.mem_append.1 hu with hu | hu
        · exact h3 u hu
        · simp at hu
          rcases hu with rfl | rfl | rfl <;> rfl
      · intro j u hu
        by_cases hj : j < cs.length
        · rw [List.getElem?_append_left hj] at hu
          exact h4 j u hu
        · rw [List.getElem?_append_right (by omega)] at hu
          have : j = cs.length ∨ j = cs.length + 1 ∨ j = cs.length + 2 := by
            have := (List.getElem?_eq_some_iff.1 hu).1
            simp at this; omega
          rcases this with rfl | rfl | rfl
          · simp at hu; subst hu; rw [h1]; exact c1
          · simp at hu; subst hu; rw [h1, ← Nat.add_assoc]; exact c2
          · simp at hu; subst hu; rw [h1, ← Nat.add_assoc]; exact c3
  obtain ⟨cs, h1, h2, h3, h4⟩ := key ps.length (Nat.le_refl _)
  rw [List.take_length] at h2
  refine ⟨cs, h1, h2, h3, fun j u hu => ?_⟩
  have hadd : (⟨b, off, none⟩ : Addr).add j = ⟨b, off + j, none⟩ := by
    cases j
    · simp [Addr.add]
    · simp [Addr.add]
  rw [hadd]
  exact h4 j u hu
end Go.Fl
namespace Go.Proofs.Ytbmahankleijkaa
open Go.RowKit Go.Fl

set_option maxHeartbeats 1000000 in
set_option maxRecDepth 100000 in
theorem cloneI (lo hi : Nat) (ao : Option Addr) (c : Nat) (xs : List Int) (h0 : 0 < xs.length) (hn : xs.length ≤ 1048576) (w : World) (hs : SlI w lo hi ao xs) (hh : hi ≤ w.heap.size) :
    Calls Try.prog 114 #[.slice ao xs.length c] w fun e w' => (∃ b cap, e = .returned (.slice (some ⟨b, 0, none⟩) xs.length cap) ∧ w.heap.size ≤ b ∧ b < w'.heap.size ∧ ORow w' 2 1 b cap xs.length (xs.map (Value.int .i64))) ∧ Below w.heap.size w w' := by
  obtain ⟨b0, o0, rfl, l1, l2, _⟩ := hs h0
  have hsA : SlI (w.alloc (.cells #[] 2)) lo hi (some ⟨b0, o0, none⟩) xs := hs.far ((Far.refl _ _ _).alloc _ hh)
  have HS := Lib.hid hsA
  have HH0 := Lib.hid h0
  clear hs hsA h0
  have he : ∀ w : World, (binOp .eql 27 (.slice (some ⟨b0, o0, none⟩) xs.length c) (.slice none 0 0)).run Try.prog w = .ok (.bool false) w := fun _ => rfl
  go_enter Try.func114, Try.ntmps114
  go_wp2_with (at_builtin; refine wpList_spread rfl _ _ _ rfl 2 (.int .i64 0) 1 8 Try.underlying27 infoInt rfl (by decide) _ w.heap.size 0 0 [] rfl (ORow.new w _ _) _ xs.length _ (xs.map (Value.int .i64)) rfl (by simp) HS.out.news ints_one HH0.out (by omega) (by decide) ?_; intro b1 cap1 w1 hr1 hb1 hl1 hg1)
  go_ret
  simp only [World.size_alloc] at hb1
  simp only [Nat.zero_add, List.nil_append] at hr1
  exact ⟨⟨b1, cap1, by simp, by omega, hl1, hr1⟩, Below.trans (by (repeat (first | exact Below.refl _ _ | assumption | refine below_dr ?_ _ | refine Below.alloc ?_ (by first | omega | (simp; done) | (simp; omega)) _ | refine Below.setCell ?_ (by first | omega | (simp; done) | (simp; omega)) _ | refine Below.trans ?_ (Below.mono (by assumption) (by first | omega | (simp; done) | (simp; omega)))))) (hg1.below (Nat.le_refl _) (by simp))⟩

set_option maxHeartbeats 1000000 in
set_option maxRecDepth 100000 in
theorem cloneP (lo hi : Nat) (ao : Option Addr) (c : Nat) (ps : List Sp) (h0 : 0 < ps.length) (hn : ps.length ≤ 1048576) (w : World) (hs : SlP w lo hi ao ps) (hh : hi ≤ w.heap.size) :
    Calls Try.prog 63 #[.slice ao ps.length c] w fun e w' => (∃ b cap cs, e = .returned (.slice (some ⟨b, 0, none⟩) ps.length cap) ∧ w.heap.size ≤ b ∧ b < w'.heap.size ∧ ORow w' 79 3 b cap ps.length cs ∧ SpL cs ps) ∧ Below w.heap.size w w' := by
  obtain ⟨b0, o0, rfl, l1, l2, _⟩ := hs h0
  have hsA : SlP (w.alloc (.cells #[] 79)) lo hi (some ⟨b0, o0, none⟩) ps := hs.far ((Far.refl _ _ _).alloc _ hh)
  obtain ⟨cs, n1, n2, n3, n4⟩ := hsA.news
  have N1 := Lib.hid n1
  have N2 := Lib.hid n2
  have N3 := Lib.hid n3
  have N4 := Lib.hid n4
  have HH0 := Lib.hid h0
  clear hs hsA h0 n1 n2 n3 n4
  have he : ∀ w : World, (binOp .eql 30 (.slice (some ⟨b0, o0, none⟩) ps.length c) (.slice none 0 0)).run Try.prog w = .ok (.bool false) w := fun _ => rfl
  go_enter Try.func63, Try.ntmps63
  go_wp2_with (at_builtin; refine wpList_spread rfl _ _ _ rfl 79 (.agg #[.float .f32 0, .float .f32 0, .float .f32 0]) 3 12 Try.underlying30 infoSpot' rfl (by decide) _ w.heap.size 0 0 [] rfl (ORow.new w _ _) _ ps.length _ cs rfl N1.out N4.out N3.out HH0.out (by omega) (by decide) ?_; intro b1 cap1 w1 hr1 hb1 hl1 hg1)
  go_ret
  simp only [World.size_alloc] at hb1
  simp only [Nat.zero_add, List.nil_append] at hr1
  exact ⟨⟨b1, cap1, cs, by simp, by omega, hl1, hr1, N2.out⟩, Below.trans (by (repeat (first | exact Below.refl _ _ | assumption | refine below_dr ?_ _ | refine Below.alloc ?_ (by first | omega | (simp; done) | (simp; omega)) _ | refine Below.setCell ?_ (by first | omega | (simp; done) | (simp; omega)) _ | refine Below.trans ?_ (Below.mono (by assumption) (by first | omega | (simp; done) | (simp; omega)))))) (hg1.below (Nat.le_refl _) (by simp))⟩

/-- the first j facets' headers cs, each over a block of its own, none of them the block of v -/
structure FR (w : World) (lo : Nat) (v : Value) (g : Nat → Nat) (fs : List (List Int)) (j : Nat) (cs : List Value) : Prop where
  cells : ∀ i, i < j → ∃ ci, cs[i]? = some (.slice (some ⟨g i, 0, none⟩) (fAt fs i).length ci) ∧ (fAt fs i).length ≤ ci
  blk : ∀ i, i < j → lo ≤ g i ∧ g i < w.heap.size ∧ v.ownBlock ≠ some (g i)
  inj : ∀ i k, i < k → k < j → g i ≠ g k
  room : ∀ i, i < j → Room w (g i) (fAt fs i).length
  reads : ∀ i, i < j → SlI w (g i) (g i + 1) (some ⟨g i, 0, none⟩) (fAt fs i)
theorem FR.nil (w : World) (lo : Nat) (v : Value) (g : Nat → Nat) (fs : List (List Int)) : FR w lo v g fs 0 [] :=
  ⟨fun i h => absurd h (Nat.not_lt_zero _), fun i h => absurd h (Nat.not_lt_zero _), fun i k _ h => absurd h (Nat.not_lt_zero _), fun i h => absurd h (Nat.not_lt_zero _), fun i h => absurd h (Nat.not_lt_zero _)⟩
theorem FR.below {w w' : World} {lo : Nat} {v : Value} {g : Nat → Nat} {fs : List (List Int)} {j : Nat} {cs : List Value} (h : FR w lo v g fs j cs) (hb : Below w.heap.size w w') : FR w' lo v g fs j cs :=
  ⟨h.cells, fun i hi => ⟨(h.blk i hi).1, Nat.lt_of_lt_of_le (h.blk i hi).2.1 hb.size, (h.blk i hi).2.2⟩, h.inj, fun i hi => (h.room i hi).far (lo := 0) (hi := w.heap.size) (Far.below hb (Nat.le_refl _)) (Nat.zero_le _) (h.blk i hi).2.1,
    fun i hi => (h.reads i hi).far (Far.below hb (by have := (h.blk i hi).2.1; omega))⟩
/-- an old cell is written, of no facet's block -/
theorem FR.set {w : World} {lo : Nat} {v : Value} {g : Nat → Nat} {fs : List (List Int)} {j : Nat} {cs : List Value} (h : FR w lo v g fs j cs) (b i : Nat) (u : Value) (hb : b < lo) : FR (w.setCell ⟨b, i, none⟩ u) lo v g fs j cs :=
  ⟨h.cells, fun i hi => ⟨(h.blk i hi).1, by simpa using (h.blk i hi).2.1, (h.blk i hi).2.2⟩, h.inj, fun i hi => (h.room i hi).set _ _ _,
    fun i hi => (h.reads i hi).far ((Far.refl _ _ _).set _ _ (by have := (h.blk i hi).1; simp; omega))⟩
/-- one more facet: its block came to w, then the row grew to w' -/
theorem FR.step {w w' : World} {lo : Nat} {v v' : Value} {g : Nat → Nat} {fs : List (List Int)} {j nb cap : Nat} {cs : List Value} (h : FR w lo v g fs j cs) (hcs : cs.length = j) (hlo : lo ≤ nb)
    (hnew : ∀ i, i < j → g i ≠ nb) (hv : v.ownBlock ≠ some nb) (hr : ORow w 2 1 nb cap (fAt fs j).length ((fAt fs j).map (Value.int .i64)))
    (hs : w.heap.size ≤ w'.heap.size) (hb : ∀ c, c < w.heap.size → v.ownBlock ≠ some c → w'.heap[c]? = w.heap[c]?) (hv' : v'.ownBlock = v.ownBlock ∨ ∃ c, v'.ownBlock = some c ∧ w.heap.size ≤ c) :
    FR w' lo v' (fun i => if i = j then nb else g i) fs (j + 1) (cs ++ [.slice (some ⟨nb, 0, none⟩) (fAt fs j).length cap]) := by
  have hne : ∀ c, c < w.heap.size → v.ownBlock ≠ some c → v'.ownBlock ≠ some c := fun c hc hvc e => by
    rcases hv' with h1 | ⟨d, h1, h2⟩
    · exact hvc (h1.symm.trans e)
    · rw [h1] at e; cases e; omega
  have hlt := hr.lt
  have hfar : ∀ c, c < w.heap.size → v.ownBlock ≠ some c → Far c (c + 1) w w' := fun c hc hvc d h1 h2 => by
    obtain rfl : d = c := by omega
    exact hb d hc hvc
  refine ⟨fun i hi => ?_, fun i hi => ?_, fun i k hik hk => ?_, fun i hi => ?_, fun i hi => ?_⟩
  · by_cases hij : i = j
    · subst hij
      exact ⟨cap, by rw [if_pos rfl, List.getElem?_append_right (by omega), hcs]; simp, hr.cap⟩
    · obtain ⟨ci, h1, h2⟩ := h.cells i (by omega)
      exact ⟨ci, by rw [if_neg hij, List.getElem?_append_left (by omega)]; exact h1, h2⟩
  · by_cases hij : i = j
    · subst hij
      simp only [if_true]
      exact ⟨hlo, by omega, hne _ hlt hv⟩
    · simp only [if_neg hij]
      obtain ⟨h1, h2, h3⟩ := h.blk i (by omega)
      exact ⟨h1, by omega, hne _ h2 h3⟩
  · by_cases hkj : k = j
    · subst hkj
      simp only [if_true, if_neg (show ¬ i = k by omega)]
      exact hnew i hik
    · simp only [if_neg hkj, if_neg (show ¬ i = j by omega)]
      exact h.inj i k hik (by omega)
  · by_cases hij : i = j
    · subst hij
      simp only [if_true]
      have := hr.room
      rw [Nat.mul_one] at this
      exact this.far (hfar nb hlt hv) (Nat.le_refl _) (Nat.lt_succ_self _)
    · simp only [if_neg hij]
      obtain ⟨h1, h2, h3⟩ := h.blk i (by omega)
      exact (h.room i (by omega)).far (hfar _ h2 h3) (Nat.le_refl _) (Nat.lt_succ_self _)
  · by_cases hij : i = j
    · subst hij
      simp only [if_true]
      exact (hr.ints rfl).far (hfar nb hlt hv)
    · simp only [if_neg hij]
      obtain ⟨h1, h2, h3⟩ := h.blk i (by omega)
      exact (h.reads i (by omega)).far (hfar _ h2 h3)
theorem FR.own {w : World} {lo b cap : Nat} {g : Nat → Nat} {fs : List (List Int)} {cs : List Value} (h : FR w lo (.slice (some ⟨b, 0, none⟩) fs.length cap) g fs fs.length cs) (hr : ORow w 82 1 b cap fs.length cs) (hb : lo ≤ b) : OwnF w lo w.heap.size b g fs := by
  have hc : ∀ i, i < fs.length → w.cell? ⟨b, i, none⟩ = cs[i]? := fun i hi => hr.cell i (by omega)
  refine ⟨⟨hb, hr.lt⟩, fun i hi => ?_, fun i hi => ?_, h.inj, h.room, h.reads, fun i hi ai n ci e => ?_⟩
  · obtain ⟨ci, h1, _⟩ := h.cells i hi
    exact ⟨ci, (hc i hi).trans h1⟩
  · obtain ⟨h1, h2, h3⟩ := h.blk i hi
    exact ⟨h1, h2, fun e => h3 (by rw [e]; rfl)⟩
  · obtain ⟨ci', h1, h2⟩ := h.cells i hi
    rw [hc i hi, h1] at e
    cases e
    exact h2

set_option maxHeartbeats 2000000 in
set_option maxRecDepth 100000 in
theorem copyFacets (lo hi : Nat) (fa : Option Addr) (fc : Nat) (fs : List (List Int)) (hn : fs.length ≤ 1048576) (hsh : ∀ i, i < fs.length → (fAt fs i).length ≤ 1048576) (h1 : ∀ i, i < fs.length → 0 < (fAt fs i).length) (w : World)
    (hs : SlN w lo hi fa fs) (hh : hi ≤ w.heap.size) :
    Calls Try.prog 64 #[.slice fa fs.length fc] w fun e w' => (∃ b cap g, e = .returned (.slice (some ⟨b, 0, none⟩) fs.length cap) ∧ OwnF w' w.heap.size w'.heap.size b g fs) ∧ Below w.heap.size w w' := by
  have HS := Lib.hid hs
  have HSH := Lib.hid hsh
  have H1 := Lib.hid h1
  clear hs hsh h1
  go_enter Try.func64, Try.ntmps64
  go_wp2_with fail
  go_loopw [3, 9] (fun out i wr => ∃ (j b cap : Nat) (g : Nat → Nat) (cs : List Value), j ≤ fs.length ∧ i = .int .i64 j ∧ out = .slice (some ⟨b, 0, none⟩) j cap ∧ Hid (ORow wr 82 1 b cap j cs) ∧ Hid (FR wr w.heap.size (.slice (some ⟨b, 0, none⟩) j cap) g fs j cs) ∧ w.heap.size ≤ b ∧ Hid (Below w.heap.size w wr)) (fun _ i _ => fs.length - (intOf i).toNat)
  case atStart => exact ⟨0, _, _, fun _ => 0, [], by omega, rfl, rfl, ORow.new w _ _, Lib.hid (FR.nil _ _ _ _ _), Nat.le_refl _, Below.alloc (Below.refl _ _) (Nat.le_refl _) _⟩
  case round =>
    obtain ⟨j, b, cap, g, cs, hj, rfl, rfl, HR, HF, hbb, HW⟩ := hrel
    by_cases hlt : j < fs.length
    · obtain ⟨bf, of', rfl, f1, f2, hc⟩ := HS.out (by omega)
      obtain ⟨ai, ci, hc1, hs1⟩ := hc j hlt
      have e1 := keep_cell HW.out hc1
      have k0 : (0 : Int) ≤ (j : Int) := by omega
      have k1 : (j : Int) < (fs.length : Int) := by omega
      have hlj := HSH.out j hlt
      have hlp := H1.out j hlt
      have hz := HW.out.size
      have hrl := HR.out.lt
      have HSA : Hid (SlI (wr.alloc (.cells #[.slice ai (fAt fs j).length ci] 82)) lo hi ai (fAt fs j)) := Lib.hid ((hs1.far (Far.below HW.out hh)).far ((Far.refl _ _ _).alloc _ (by omega)))
      have HAL : Hid (Below wr.heap.size wr (wr.alloc (.cells #[.slice ai (fAt fs j).length ci] 82))) := Lib.hid (Below.alloc (Below.refl _ _) (Nat.le_refl _) _)
      clear hc hc1 hs1
      go_wp2_with (first
        | (go_at_call 114; refine (cloneI lo hi ai ci (fAt fs j) hlp hlj _ HSA.out (by simp; omega)).mono ?_; rintro e w3 ⟨⟨nb, ncap, rfl, hn1, hn2, hr3⟩, hb3⟩; have HB3 : Hid (Below wr.heap.size wr w3) := Lib.hid (HAL.out.trans (hb3.mono (by simp))); have HN := Lib.hid hr3; have HR3 := Lib.hid (HR.out.below HB3.out hrl); have hzb := hb3.size; simp at hn1 hzb; clear hr3 hb3)
        | (at_builtin; refine wpList_app rfl _ _ _ rfl 82 (.agg #[.slice none 0 0]) 1 24 Try.underlying31 infoFacet rfl (by decide) _ #[.slice (some ⟨nb, 0, none⟩) (fAt fs j).length ncap] 82 rfl (by simp [Value.oneCell']) b cap _ _ rfl rfl HR3.out (by omega) (by decide) ?_; intro b5 cap5 w5 hr5 hg5 hgr5))
      have HW3 := Lib.hid (HW.out.trans (HB3.out.mono hz))
      have hz3 := HW3.out.size
      have hcl := HR.out.clen
      go_roundw
      case rel =>
        refine ⟨j + 1, b5, cap5, fun i => if i = j then nb else g i, _, by omega, by go_num, rfl, Lib.hid hr5, Lib.hid ?_, by omega, Lib.hid (HW3.out.trans (hgr5.below (by omega) hz3))⟩
        refine (HF.out.below HB3.out).step (v' := .slice (some ⟨b5, 0, none⟩) (j + 1) cap5) (by omega) (by omega) (fun i hi => by have := (HF.out.blk i hi).2.1; omega) (by simp [Value.ownBlock]; omega) HN.out hgr5.size (fun c hc hne => hgr5.block c hc (fun e => hne (by rw [e]; rfl))) ?_
        rcases hg5 with rfl | h
        · exact .inl rfl
        · exact .inr ⟨b5, rfl, by omega⟩
      case measure => simp [intOf]; omega
    · have hjn : j = fs.length := by omega
      subst hjn
      go_wp2_with fail
      go_ret
      exact ⟨⟨b, cap, g, rfl, HF.out.own HR.out hbb⟩, HW.out⟩
end Go.Proofs.Ytbmahankleijkaa

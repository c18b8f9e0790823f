/- Nets, the law: the reference's nets, walked: facets out of a list of corners. -/
import Derived.Test.YtkjljajjjhfklaaNnQ
namespace Go.Proofs.Ytkjljajjjhfklaa
open Go.RowKit Go.Fl
/-- every four numbers are a facet -/
def four (xs : List Int) (j : Nat) : List Int := [iAt xs (4 * j), iAt xs (4 * j + 1), iAt xs (4 * j + 2), iAt xs (4 * j + 3)]
def fours (xs : List Int) (k : Nat) : List (List Int) := (List.range k).map (four xs)
theorem fours_len (xs : List Int) (k : Nat) : (fours xs k).length = k := by simp [fours]
theorem fours_at {xs : List Int} {k j : Nat} (h : j < k) : fAt (fours xs k) j = four xs j := by simp [fAt, fours, h]
set_option maxHeartbeats 2000000 in
set_option maxRecDepth 100000 in
theorem l06FacetsN (lo hi : Nat) (ao : Option Addr) (c k : Nat) (xs : List Int) (hx : xs.length = 4 * k) (hk : k ≤ 1000) (hc : 4 * k ≤ c) (w : World) (hs : SlI w lo hi ao xs) (_hh : hi ≤ w.heap.size) :
    Calls Try.prog 79 #[.slice ao ((4 * k : Nat) : Int).toNat c] w fun e w' => (∃ b cap g cs, e = .returned (.slice (some ⟨b, 0, none⟩) k cap) ∧ OwnF w' w.heap.size w'.heap.size b g (fours xs k) ∧ ORow w' 38 1 b cap k cs) ∧ Below w.heap.size w w' := by
  rw [Int.toNat_natCast]
  have HS := Lib.hid hs
  clear hs
  obtain ⟨N, hN⟩ : ∃ N, N = 4 * k := ⟨_, rfl⟩
  rw [← hN] at hx hc ⊢
  have HN := Lib.hid hN
  have HX := Lib.hid hx
  clear hN hx
  go_enter Try.func79, Try.ntmps79
  go_wp2_with fail
  go_loopw [3, 4] (fun out i wr => ∃ (j I b cap : Nat) (g : Nat → Nat) (cs : List Value), j ≤ k ∧ i = .int .i64 I ∧ Hid (I = 4 * j) ∧ out = .slice (some ⟨b, 0, none⟩) j cap ∧ Hid (ORow wr 38 1 b cap j cs) ∧ Hid (FR wr w.heap.size (.slice (some ⟨b, 0, none⟩) j cap) g (fours xs k) j cs) ∧ w.heap.size ≤ b ∧ Hid (Below w.heap.size w wr)) (fun _ i _ => N - (intOf i).toNat)
  case atStart => exact ⟨0, 0, _, _, fun _ => 0, [], by omega, rfl, Lib.hid rfl, rfl, ORow.new w _ _, Lib.hid (FR.nil _ _ _ _ _), Nat.le_refl _, Below.alloc (Below.refl _ _) (Nat.le_refl _) _⟩
  case round =>
    obtain ⟨j, I, b, cap, g, cs, hj, rfl, hI, rfl, HR, HF, hbb, HW⟩ := hrel
    by_cases hlt : j < k
    · obtain ⟨b0, off, rfl, f1, f2, hcc⟩ := HS.out (by rw [HX.out]; have := HN.out; omega)
      have hI4 : I + 4 ≤ N := by have := HN.out; have := hI.out; omega
      have i0 : (0 : Int) ≤ (I : Int) := by omega
      have i2 : (N : Int) ≤ 4000 := by have := HN.out; omega
      have i4 : (I : Int) + 3 < (N : Int) := by omega
      obtain ⟨E, hE⟩ : ∃ E : Nat, E = I + 4 := ⟨_, rfl⟩
      have e0 : (I : Int) + 4 = (E : Int) := by omega
      have e1 : (E : Int) ≤ (N : Int) := by omega
      have e2 : (E : Int) ≤ (c : Int) := by omega
      have e3 : (I : Int) ≤ (E : Int) := by omega
      have HE := Lib.hid hE
      clear hE
      have hrl := HR.out.lt
      have hz := HW.out.size
      have hcv : ∀ (W : World), Below wr.heap.size wr W → ∀ i, i < 4 → W.cell? ⟨b0, off + I + i, none⟩ = some (.int .i64 (iAt xs (I + i))) := fun W hW i hi => by
        have h1 := hcc (I + i) (by rw [HX.out]; omega)
        rw [← Nat.add_assoc] at h1
        exact keep_cell (HW.out.trans (hW.mono hz)) h1
      have HA1 : Hid (∀ o, Below wr.heap.size wr (wr.alloc o)) := Lib.hid fun o => (Below.refl _ _).alloc (Nat.le_refl _) _
      have hnw : ∀ (W : World), Below wr.heap.size wr W → ∀ i u, [Value.int .i64 (iAt xs I), .int .i64 (iAt xs (I + 1)), .int .i64 (iAt xs (I + 2)), .int .i64 (iAt xs (I + 3))][i]? = some u → W.cell? (Addr.add ⟨b0, off + I, none⟩ i) = some u := fun W hW i u hu => by
        have hi : i < 4 := by
          have := (List.getElem?_eq_some_iff.1 hu).1
          simpa using this
        have h1 := hcv W hW i hi
        have e : Addr.add ⟨b0, off + I, none⟩ i = ⟨b0, off + I + i, none⟩ := by simp [Addr.add]
        rw [e]
        refine Eq.trans h1 ?_
        rcases (by omega : i = 0 ∨ i = 1 ∨ i = 2 ∨ i = 3) with rfl | rfl | rfl | rfl <;> exact hu
      have HNW := Lib.hid hnw
      clear hcv hcc hnw
      go_wp2_with (first
        | (at_builtin; (refine wpList_app0 (by exact rfl) _ _ _ (by exact rfl) 2 (.int .i64 0) 1 8 Try.underlying29 infoInt rfl (by decide) _ (.slice (some ⟨wr.heap.size, 0, none⟩) 0 0) 0 [] (by exact rfl) (ORow.row0 (ORow.new wr _ _)) ⟨b0, off + I, none⟩ (E - I) (c - I) [.int .i64 (iAt xs I), .int .i64 (iAt xs (I + 1)), .int .i64 (iAt xs (I + 2)), .int .i64 (iAt xs (I + 3))] (by exact rfl) (by have := HE.out; simp; omega) (HNW.out _ (HA1.out _)) (by simp [Value.oneCell']) (by have := HE.out; omega) (by have := HE.out; omega) (by decide) ?_); intro b6 c6 w6 hr6 hb6 hl6 hg6; have HR6 := Lib.hid hr6; have HG6 := Lib.hid hg6; have HB6 := Lib.hid hb6; have HK6 : Hid (ORow w6 38 1 b cap j cs) := Lib.hid (HR.out.far (lo := 0) (hi := wr.heap.size) (fun d _ hd => (hg6.block d (by simp; omega) (fun e => by simp [Value.ownBlock] at e; omega)).trans (Below.heap_alloc _ _ _ hd)) (Nat.zero_le _) hrl); clear hr6 hg6 hb6)
        | (at_builtin; (refine wpList_app rfl _ _ _ rfl 38 (.agg #[.slice none 0 0]) 1 24 Try.underlying25 infoFacet rfl (by decide) _ #[.slice (some ⟨b6, 0, none⟩) (E - I) c6] 38 rfl (by simp [Value.oneCell']) b cap _ _ rfl rfl HK6.out (by omega) (by decide) ?_); intro b5 cap5 w5 hr5 hg5 hgr5))
      have hg6 := HG6.out
      have B6 : Below wr.heap.size wr w6 := ⟨hg6.os, hg6.tape, hg6.output, by have := hg6.size; simp at this; omega, fun d hd => (hg6.block d (by simp; omega) (fun e => by simp [Value.ownBlock] at e; omega)).trans (Below.heap_alloc _ _ _ hd)⟩
      have hb6 : wr.heap.size ≤ b6 := by
        rcases HB6.out with e | e
        · simp [Value.ownBlock] at e; omega
        · simp at e; omega
      have hf : fAt (fours xs k) j = [iAt xs I, iAt xs (I + 1), iAt xs (I + 2), iAt xs (I + 3)] := by rw [fours_at hlt, hI.out]; rfl
      have hE4 : E - I = 4 := by have := HE.out; omega
      have hr6 := HR6.out
      rw [hE4] at hr6
      have r6 : ORow w6 2 1 b6 c6 (fAt (fours xs k) j).length ((fAt (fours xs k) j).map (Value.int .i64)) := by rw [hf]; exact hr6
      have hz6 := B6.size
      have hst := (HF.out.below B6).step (v' := .slice (some ⟨b5, 0, none⟩) (j + 1) cap5) (by have := HR.out.clen; omega) (by omega) (fun i hi => by have := (HF.out.blk i hi).2.1; omega) (by simp [Value.ownBlock]; omega) r6 hgr5.size (fun d hd hne => hgr5.block d hd (fun e => hne (by rw [e]; rfl))) (by
        rcases hg5 with rfl | h
        · exact .inl rfl
        · exact .inr ⟨b5, rfl, by omega⟩)
      have hW5 := (HW.out.trans (B6.mono hz)).trans (hgr5.below (B := w.heap.size) (by omega) (by omega))
      rw [hE4] at hr5
      refine ⟨⟨j + 1, E, b5, cap5, _, _, by omega, rfl, Lib.hid (by have := HE.out; have := hI.out; omega), rfl, Lib.hid hr5, Lib.hid (by rw [hf] at hst; exact hst), by omega, Lib.hid hW5⟩, by simp [intOf]; omega⟩
    · have hjk : j = k := by omega
      subst hjk
      have hI4k : (I : Int) ≤ 4000 := by have := hI.out; omega
      have hIN : I = N := by have := HN.out; have := hI.out; omega
      subst hIN
      go_wp2_with fail
      go_ret
      refine ⟨⟨b, cap, g, cs, rfl, ?_, HR.out⟩, HW.out⟩
      have h1 := HF.out
      have h2 := HR.out
      exact (show FR wr w.heap.size (.slice (some ⟨b, 0, none⟩) (fours xs j).length cap) g (fours xs j) (fours xs j).length cs by rw [fours_len]; exact h1).own (by rw [fours_len]; exact h2) hbb
end Go.Proofs.Ytkjljajjjhfklaa

/- Contract: the closure that collects a net's edges. -/
import Derived.Test.YtbmahankleijkaaEd
namespace Go.Fl
theorem ORow.set {w : World} {e : TypeId} {size b cap n : Nat} {cs : List Value} (h : ORow w e size b cap n cs) (i : Nat) (hi : i < n * size) (v : Value) : ORow (w.setCell ⟨b, i, none⟩ v) e size b cap n (cs.set i v) := by
  obtain ⟨hl, hr⟩ := h
  refine ⟨by simpa using hl, ?_⟩
  rcases hr with ⟨hn, _⟩ | ⟨g, c, cur, hv, hb, hg, h1, h2, h3, h4⟩
  · cases hn
  · have hgb : g = b := by simpa using (Value.slice.inj hv).1.symm
    subst hgb
    refine .inr ⟨g, c, cur.setIfInBounds i v, hv, hb, OwnC.set (T := e) hg i v, h1, h2, by simpa using h3, ?_⟩
    rw [← h4]
    simp only [Array.toList_setIfInBounds]
    rw [List.take_set]
theorem OMap.grow {w : World} {b n m : Nat} {f : Int → Int → Option Value} (h : OMap w b n f) (hm : n ≤ m) : OMap w b m f := by
  obtain ⟨es, clock, h1, h2, r⟩ := h
  exact ⟨es, clock, h1, by omega, r⟩
theorem findIdx?_snoc {α : Type} (p : α → Bool) (l : List α) (x : α) : (l ++ [x]).findIdx? p = match l.findIdx? p with | some i => some i | none => if p x then some l.length else none := by
  rw [List.findIdx?_append]
  cases h : l.findIdx? p with
  | some i => simp
  | none => cases hp : p x <;> simp [List.findIdx?_cons, hp]
end Go.Fl
namespace Go.Proofs.Ytbmahankleijkaa
open Go.RowKit Go.Fl

theorem edM_succ {A B : List Int} {t : Nat} (ho : Once A B (t + 1)) (hf : firstB A B t = true) (x y : Int) : put2 (edM A B t) (iAt A t) (iAt B t) (.int .i64 ((firsts A B t).length : Int)) x y = edM A B (t + 1) x y := by
  unfold put2 edM
  rw [firsts_yes hf, findIdx?_snoc]
  by_cases h : x = iAt A t ∧ y = iAt B t
  · obtain ⟨rfl, rfl⟩ := h
    rw [if_pos ⟨rfl, rfl⟩]
    have : (firsts A B t).findIdx? (fun s => iAt A s == iAt A t && iAt B s == iAt B t) = none := by
      rw [List.findIdx?_eq_none_iff]
      intro s hs
      have hlt := firsts_lt t s hs
      have := ho s t hlt (by omega)
      simpa using this
    rw [this]; simp
  · rw [if_neg h]
    cases (firsts A B t).findIdx? (fun s => iAt A s == x && iAt B s == y) with
    | some i => rfl
    | none =>
      have : (iAt A t == x && iAt B t == y) = false := by
        cases hb : (iAt A t == x && iAt B t == y) with
        | false => rfl
        | true => simp at hb; exact absurd ⟨hb.1.symm, hb.2.symm⟩ h
      simp [this]

/-- what the closure keeps: the places' variable in block mb, their map in block M, the edges' variable in block ob -/
structure EJ (mb M ob : Nat) (A B F : List Int) (t : Nat) (P : Nat → Prop) (w : World) : Prop where
  row : ∃ rb cap, (∀ b, P b ↔ b = mb ∨ b = M ∨ b = ob ∨ b = rb) ∧ OwnC w ob #[.slice (some ⟨rb, 0, none⟩) (firsts A B t).length cap] 68 ∧
    ORow w 71 4 rb cap (firsts A B t).length ((edL A B F t).map (Value.int .i64)) ∧ mb ≠ rb ∧ M ≠ rb ∧ ob ≠ rb
  var : OwnC w mb #[.map (some M)] 130
  map : OMap w M t (edM A B t)
  apart : mb ≠ M ∧ mb ≠ ob ∧ M ≠ ob
theorem EJ.keeps (mb M ob : Nat) (A B F : List Int) : Keeps (EJ mb M ob A B F) where
  stable := fun {t P w w'} h hb hz => by
    obtain ⟨rb, cap, hp, h1, h2, h3⟩ := h.row
    refine ⟨⟨rb, cap, hp, (hb ob ((hp ob).2 (by simp))).trans h1, ?_, h3⟩, (hb mb ((hp mb).2 (by simp))).trans h.var, h.map.of_block (hb M ((hp M).2 (by simp))), h.apart⟩
    refine h2.far (lo := rb) (hi := rb + 1) (fun c h4 h5 => ?_) (Nat.le_refl _) (Nat.lt_succ_self _)
    have : c = rb := by omega
    subst this
    exact hb c ((hp c).2 (by simp))
  low := fun {t P w} h b hb => by
    obtain ⟨rb, cap, hp, h1, h2, h3⟩ := h.row
    rcases (hp b).1 hb with rfl | rfl | rfl | rfl
    · exact h.var.lt
    · exact h.map.lt
    · exact h1.lt
    · exact h2.lt
theorem zeroI (w : World) : (zeroValue 3).run Try.prog w = .ok (.int .i64 0) w := by kernel_rfl
theorem infoEdge : (Try.prog.info? 71).map (fun i => (i.zero, i.size, i.bytes)) = some (some (.agg #[.int .i64 0, .int .i64 0, .int .i64 0, .int .i64 0]), 4, 32) := by kernel_rfl

set_option maxHeartbeats 1000000 in
set_option maxRecDepth 100000 in
theorem edges1 (mb M ob t : Nat) (A B F : List Int) (P : Nat → Prop) (j x y : Int) (ht : t ≤ 1099511627776) (hx : iAt A t = x) (hy : iAt B t = y) (hf : iAt F t = j) (hne : x ≠ y) (ix : In64 x) (iy : In64 y) (ho : Once A B (t + 1)) (w : World) (hJ : EJ mb M ob A B F t P w) :
    Calls Try.prog 110 #[.int .i64 j, .int .i64 x, .int .i64 y, .pointer (some ⟨mb, 0, none⟩), .pointer (some ⟨ob, 0, none⟩)] w fun e w' => e = .returned (.tuple #[]) ∧ ∃ P', EJ mb M ob A B F (t + 1) P' w' ∧ Ch P w w' ∧ ∀ b, P' b → P b ∨ w.heap.size ≤ b := by
  subst hx hy hf
  obtain ⟨rb, cap, hp, h1, h2, hr⟩ := hJ.row
  have c1 := hJ.var.cell 0
  have c2 := h1.cell 0
  have f2 := h1.free 0
  simp at c1 c2
  have HJ := Lib.hid hJ
  have HP := Lib.hid hp
  have HO1 := Lib.hid h1
  have HR := Lib.hid h2
  have ha := hJ.apart
  have hfl := firsts_len A B t
  cases hm : edM A B t (iAt B t) (iAt A t) with
  | some v =>
    obtain ⟨i, s, rfl, hi, hs1, hs2⟩ := edM_some hm
    have hil : i < (firsts A B t).length := (List.getElem?_eq_some_iff.1 hi).1
    have hroom := h2.room
    obtain ⟨u, c3⟩ := hroom.cell (i := i * 4 + 3) (by omega)
    have f3 := hroom.free (i * 4 + 3)
    have hE := edL_no (F := F) ho hi hs1 hs2
    have hff : firstB A B t = false := by rw [edM_first ho, hm]; rfl
    have HE := Lib.hid hE
    have HFN := Lib.hid (firsts_no hff)
    have HM := Lib.hid hm
    have k0 : (0 : Int) ≤ (i : Int) := by omega
    have k1 : (i : Int) < ((firsts A B t).length : Int) := by omega
    clear hJ hp h1 h2 hm hi hroom hE hff ho hs1 hs2
    go_enter Try.func110, Try.ntmps110
    go_wp2_with (at_lookup; refine wpList_look _ rfl _ _ _ _ rfl 3 Try.underlying130 _ (zeroI _) M t _ rfl HJ.out.map (iAt B t) (iAt A t) rfl iy ix ?_; simp only [HM.out, Option.getD_some, Option.isSome_some, if_true])
    refine bodyPost_ret (results_none rfl _ _ _) rfl ⟨rfl, P, ⟨⟨rb, cap, HP.out, ?_, ?_, hr⟩, HJ.out.var.other _ _ (by simp; omega), ?_, ha⟩, Ch.set w _ _ ((HP.out rb).2 (by simp)), fun b hb => .inl hb⟩
    · rw [HFN.out]; exact HO1.out.other _ _ (by simp; omega)
    · rw [HFN.out, HE.out, List.map_set]
      exact HR.out.set (i * 4 + 3) (by omega) _
    · refine ((HJ.out.map.of_block (Below.heap_setCell _ _ _ _ (by simp; omega))).grow (Nat.le_succ t)).congr fun x y => ?_
      unfold edM; rw [HFN.out]
  | none =>
    have hff : firstB A B t = true := by rw [edM_first ho, hm]; rfl
    have HE := Lib.hid (edL_yes (F := F) ho hff hne)
    have HFN := Lib.hid (firsts_yes hff)
    have HMS := Lib.hid (edM_succ ho hff)
    have HM := Lib.hid hm
    clear hJ hp h1 h2 hm hff ho
    go_enter Try.func110, Try.ntmps110
    go_wp2_with (first | (at_lookup; refine wpList_look _ rfl _ _ _ _ rfl 3 Try.underlying130 _ (zeroI _) M t _ rfl HJ.out.map (iAt B t) (iAt A t) rfl iy ix ?_; simp only [HM.out, Option.getD_none, Option.isSome_none, if_true]) | (at_mapUpdate; refine wpList_store _ rfl _ _ _ _ rfl 3 Try.underlying130 M t _ rfl HJ.out.map (iAt A t) (iAt B t) rfl ix iy ?_; intro w1 hm1 hg1; have HO2 : Hid (OwnC w1 ob #[.slice (some ⟨rb, 0, none⟩) (firsts A B t).length cap] 68) := (hg1.block ob HO1.out.lt (by omega)).trans HO1.out; have c3 := HO2.out.cell 0; have f3 := HO2.out.free 0; simp at c3; have HR1 := Lib.hid (HR.out.grew hg1 (by omega))) | (at_builtin; refine wpList_app2 rfl _ _ _ rfl 71 (.agg #[.int .i64 0, .int .i64 0, .int .i64 0, .int .i64 0]) 4 32 Try.underlying68 infoEdge rfl (by decide) _ #[.int .i64 (iAt A t), .int .i64 (iAt B t), .int .i64 (iAt F t), .int .i64 (-1)] 71 rfl (by simp [Value.oneCell']) _ rb cap _ _ rfl rfl (by simp) HR1.out (by omega) (by decide) ?_; intro b4 cap4 w4 hr4 hg4 hgr4; have HO4 : Hid (OwnC w4 ob #[.slice (some ⟨rb, 0, none⟩) (firsts A B t).length cap] 68) := (hgr4.block ob HO2.out.lt (by omega)).trans HO2.out; have c4 := HO4.out.cell 0; have f4 := HO4.out.free 0; simp at c4))
    have hm1' : OMap w1 M (t + 1) (edM A B (t + 1)) := by
      have : OMap w1 M (t + 1) (put2 (edM A B t) (iAt A t) (iAt B t) (.int .i64 ((firsts A B t).length : Int))) := hm1
      exact this.congr HMS.out
    have z1 := hg1.size
    have l1 := HO1.out.lt
    have l2 := HR.out.lt
    have l3 := hm1'.lt
    have l4 := HJ.out.var.lt
    have l5 := HJ.out.map.lt
    have hv1 : OwnC w1 mb #[.map (some M)] 130 := (hg1.block mb l4 (by omega)).trans HJ.out.var
    have hv4 : OwnC w4 mb #[.map (some M)] 130 := (hgr4.block mb (by omega) (by omega)).trans hv1
    go_end0
    refine ⟨rfl, fun b => b = mb ∨ b = M ∨ b = ob ∨ b = b4, ⟨⟨b4, cap4, fun _ => Iff.rfl, ?_, ?_, by omega⟩, hv4.other _ _ (by simp; omega), ?_, ha⟩, ?_, fun b hb => ?_⟩
    · rw [HFN.out]
      refine (HO4.out.set 0 _).congr ?_
      simp
    · rw [HFN.out, HE.out]
      have : ORow (w4.setCell ⟨ob, 0, none⟩ (.slice (some ⟨b4, 0, none⟩) ((firsts A B t).length + 1) cap4)) 71 4 b4 cap4 ((firsts A B t).length + 1) ((edL A B F t).map (Value.int .i64) ++ [.int .i64 (iAt A t), .int .i64 (iAt B t), .int .i64 (iAt F t), .int .i64 (-1)]) :=
        hr4.far (lo := b4) (hi := b4 + 1) ((Far.refl _ _ _).set _ _ (by simp; omega)) (Nat.le_refl _) (Nat.lt_succ_self _)
      simpa using this
    · exact ((hm1'.of_block (hgr4.block M (by omega) (by omega)))).of_block (Below.heap_setCell _ _ _ _ (by simp; omega))
    · refine ((Ch.grew hg1 ((HP.out M).2 (by simp))).trans (P' := P) (Ch.grew hgr4 ((HP.out rb).2 (by simp))) (fun b hb => .inl hb)).trans (P' := P) (Ch.set _ _ _ ((HP.out ob).2 (by simp))) (fun b hb => .inl hb)
    · rcases hb with h | h | h | h
      · exact .inl ((HP.out b).2 (.inl h))
      · exact .inl ((HP.out b).2 (.inr (.inl h)))
      · exact .inl ((HP.out b).2 (.inr (.inr (.inl h))))
      · rcases hg4 with h2 | h2
        · exact .inl ((HP.out b).2 (by simp [h, h2]))
        · exact .inr (by omega)
end Go.Proofs.Ytbmahankleijkaa

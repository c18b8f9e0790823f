/- Contract: a net of its own, the reference's. -/
import Derived.Test.YtbmahankleijkaaCpy
import Derived.Test.YtbmahankleijkaaTrk
import Derived.Deep.RegionLaw
import Derived.Deep.Cut
import Derived.Deep.CutRange
namespace Go.Proofs.Ytbmahankleijkaa
open Go.RowKit Go.Fl

theorem ORow.drewW {w : World} {e : TypeId} {size b cap n : Nat} {cs : List Value} (h : ORow w e size b cap n cs) : ORow w.drew e size b cap n cs := h
theorem ORow0.nil (w : World) (e : TypeId) (size : Nat) : ORow0 w e size (.slice none 0 0) 0 [] := ⟨by simp, .inl ⟨rfl, rfl⟩⟩
theorem ORow0.below {w w' : World} {e : TypeId} {size n : Nat} {v : Value} {cs : List Value} (h : ORow0 w e size v n cs) (hb : Below w.heap.size w w') : ORow0 w' e size v n cs := by
  obtain ⟨q1, q2⟩ := h
  refine ⟨q1, ?_⟩
  rcases q2 with h0 | ⟨g, c, cur, hv, hl, hg, r⟩
  · exact .inl h0
  · refine .inr ⟨g, c, cur, hv, hl, ?_, r⟩
    have hlt : g < w.heap.size := by
      rcases Nat.lt_or_ge g w.heap.size with h | h
      · exact h
      · rw [Array.getElem?_eq_none h] at hg; cases hg
    exact (hb.block g hlt).trans hg
theorem ORow0.set {w : World} {e : TypeId} {size n : Nat} {v : Value} {cs : List Value} (h : ORow0 w e size v n cs) (b i : Nat) (u : Value) (hb : v.ownBlock ≠ some b) : ORow0 (w.setCell ⟨b, i, none⟩ u) e size v n cs := by
  obtain ⟨q1, q2⟩ := h
  refine ⟨q1, ?_⟩
  rcases q2 with h0 | ⟨g, c, cur, hv, hl, hg, r⟩
  · exact .inl h0
  · refine .inr ⟨g, c, cur, hv, hl, ?_, r⟩
    rw [Below.heap_setCell _ _ _ _ (by intro e; apply hb; rw [hv]; simp [Value.ownBlock]; exact e)]
    exact hg
theorem ORow0.lt {w : World} {e : TypeId} {size n : Nat} {v : Value} {cs : List Value} (h : ORow0 w e size v n cs) {b : Nat} (hv : v.ownBlock = some b) : b < w.heap.size := by
  obtain ⟨q1, q2⟩ := h
  rcases q2 with ⟨rfl, _⟩ | ⟨g, c, cur, rfl, hl, hg, r⟩
  · cases hv
  · have : g = b := by simpa [Value.ownBlock] using hv
    subst this
    rcases Nat.lt_or_ge g w.heap.size with h | h
    · exact h
    · rw [Array.getElem?_eq_none h] at hg; cases hg
theorem ORow0.form {w : World} {e : TypeId} {size n : Nat} {v : Value} {cs : List Value} (h : ORow0 w e size v n cs) (hn : 0 < n) : ∃ b cap, v = .slice (some ⟨b, 0, none⟩) n cap ∧ ORow w e size b cap n cs := by
  obtain ⟨q1, q2⟩ := h
  rcases q2 with ⟨_, h0⟩ | ⟨g, c, cur, rfl, hl, hg, r⟩
  · omega
  · exact ⟨g, c, rfl, q1, .inr ⟨g, c, cur, rfl, Nat.le_refl _, hg, r⟩⟩
theorem ORow0.isSlice {w : World} {e : TypeId} {size n : Nat} {v : Value} {cs : List Value} (h : ORow0 w e size v n cs) : v.oneCell' = true := by
  obtain ⟨q1, q2⟩ := h
  rcases q2 with ⟨rfl, _⟩ | ⟨g, c, cur, rfl, _⟩ <;> rfl
theorem OwnF.lower {w : World} {lo lo' hi bf : Nat} {g : Nat → Nat} {fs : List (List Int)} (h : OwnF w lo hi bf g fs) (hl : lo' ≤ lo) : OwnF w lo' hi bf g fs :=
  ⟨⟨Nat.le_trans hl h.row.1, h.row.2⟩, h.head, fun i hi => ⟨Nat.le_trans hl (h.blk i hi).1, (h.blk i hi).2⟩, h.inj, h.room, h.reads, h.cap⟩
theorem OwnNet.lower {w : World} {lo lo' hi bs bf : Nat} {g : Nat → Nat} {ps : List Sp} {fs : List (List Int)} (h : OwnNet w lo hi bs bf g ps fs) (hl : lo' ≤ lo) : OwnNet w lo' hi bs bf g ps fs :=
  ⟨h.spots, h.room, h.facets.lower hl, ⟨Nat.le_trans hl h.low.1, h.low.2⟩, h.apart⟩
/-- where the copying of facets stands -/
def CpI (w5 wr : World) (ob : Nat) (hd : Value) (fs : List (List Int)) (j : Nat) : Prop :=
  ∃ v g cs, ORow0 wr 82 1 v j cs ∧ FR wr w5.heap.size v g fs j cs ∧ (∀ b, v.ownBlock = some b → w5.heap.size ≤ b) ∧ OwnC wr ob #[hd, v] 33 ∧ Ch (fun c => c = ob) w5 wr

theorem keep_alloc {w : World} {b o : Nat} {v : Value} (ob : Obj) (h : w.cell? ⟨b, o, none⟩ = some v) : (w.alloc ob).cell? ⟨b, o, none⟩ = some v := keep_cell (Below.alloc (Below.refl _ _) (Nat.le_refl _) _) h
theorem CpI.step {w5 wr w6 w7 : World} {ob : Nat} {hd : Value} {fs : List (List Int)} {j : Nat} {v : Value} {g : Nat → Nat} {cs : List Value} {b6 c6 b7 c7 : Nat} (hl : cs.length = j) (hrow : ORow0 wr 82 1 v j cs) (hfr : FR wr w5.heap.size v g fs j cs)
    (hvb : ∀ b, v.ownBlock = some b → w5.heap.size ≤ b) (hown : OwnC wr ob #[hd, v] 33) (hch : Ch (fun c => c = ob) w5 wr) (hob : ob < w5.heap.size) (h6 : Below wr.heap.size wr w6) (r6 : ORow w6 2 1 b6 c6 (fAt fs j).length ((fAt fs j).map (Value.int .i64))) (hb6 : wr.heap.size ≤ b6)
    (hg7 : (w6.alloc (.cells #[.slice (some ⟨b6, 0, none⟩) (fAt fs j).length c6] 82)).grownBy w7 v.ownBlock)
    (r7 : ORow w7 82 1 b7 c7 (j + 1) (cs ++ [.slice (some ⟨b6, 0, none⟩) (fAt fs j).length c6])) (hb7 : v.ownBlock = some b7 ∨ b7 = w6.heap.size + 1) :
    CpI w5 (w7.setCell ⟨ob, 1, none⟩ (.slice (some ⟨b7, 0, none⟩) (j + 1) c7)) ob hd fs (j + 1) := by
  have z5 := hch.size
  have z6 := h6.size
  have z7 : w6.heap.size + 1 ≤ w7.heap.size := by have := hg7.size; simpa using this
  have hbo : w5.heap.size ≤ b7 := by
    rcases hb7 with h | h
    · exact hvb _ h
    · omega
  have hne : ∀ c, c < w6.heap.size → v.ownBlock ≠ some c → w7.heap[c]? = w6.heap[c]? := fun c hc hv => (hg7.block c (by simp; omega) (fun e => hv e.symm)).trans (Below.heap_alloc _ _ _ hc)
  have hvo : v.ownBlock ≠ some ob := fun e => by have := hvb _ e; omega
  have hown7 : OwnC w7 ob #[hd, v] 33 := (hne ob (by omega) hvo).trans (hown.below h6 (by omega))
  refine ⟨.slice (some ⟨b7, 0, none⟩) (j + 1) c7, fun i => if i = j then b6 else g i, _, ORow0.set r7.row0 _ _ _ (by simp [Value.ownBlock]; omega), FR.set ?_ _ _ _ hob, fun b e => ?_, (hown7.set 1 _).congr rfl, ?_⟩
  · refine (hfr.below h6).step hl (by omega) (fun i hi => by have := (hfr.blk i hi).2.1; omega) (fun e => by have := ORow0.lt hrow e; omega) r6 (by omega) hne ?_
    rcases hb7 with h | h
    · exact .inl (by rw [h]; rfl)
    · exact .inr ⟨b7, rfl, by omega⟩
  · simp [Value.ownBlock] at e; omega
  · have c1 : Ch (fun c => c = ob) w5 w6 := hch.trans (P' := fun _ => False) (Ch.below h6) (fun b hb => hb.elim)
    have c2 : Ch (fun c => v.ownBlock = some c) w6 w7 := ⟨hg7.os, hg7.tape, hg7.output, by omega, hne⟩
    have c3 : Ch (fun c => c = ob) w5 w7 := c1.trans c2 (fun b hb => .inr (hvb b hb))
    exact c3.trans (P' := fun c => c = ob) (Ch.set _ _ _ rfl) (fun b hb => .inl hb)

set_option maxHeartbeats 4000000 in
set_option maxRecDepth 100000 in
theorem l06Own (lo hi pb : Nat) (sa fa : Option Addr) (sc fc : Nat) (ps : List Sp) (fs : List (List Int)) (hp : ps.length ≤ 1048576) (hn : fs.length ≤ 1048576) (hsh : ∀ i, i < fs.length → (fAt fs i).length ≤ 1048576) (hp0 : 0 < ps.length) (hn0 : 0 < fs.length) (h1 : ∀ i, i < fs.length → 0 < (fAt fs i).length) (w : World)
    (p0 : w.cell? ⟨pb, 0, none⟩ = some (.slice sa ps.length sc)) (p1 : w.cell? ⟨pb, 1, none⟩ = some (.slice fa fs.length fc)) (hs : NetAt w lo hi sa fa ps fs) (hh : hi ≤ w.heap.size) :
    Calls Try.prog 62 #[.pointer (some ⟨pb, 0, none⟩)] w fun e w' => (∃ bs c1 bf c2 g, e = .returned (.agg #[.slice (some ⟨bs, 0, none⟩) ps.length c1, .slice (some ⟨bf, 0, none⟩) fs.length c2]) ∧ OwnNet w' w.heap.size w'.heap.size bs bf g ps fs) ∧ Below w.heap.size w w' := by
  have hpb := World.block_lt_of_cell? w _ p0
  simp only at hpb
  obtain ⟨b0, o0, rfl, l1, l2, _⟩ := hs.spots hp0
  have hA : Far lo hi w ((w.alloc (.cells #[.slice none 0 0, .slice none 0 0] 33)).alloc (.cells #[] 79)) := ((Far.refl _ _ _).alloc _ hh).alloc _ (by simp; omega)
  obtain ⟨cs0, n1, n2, n3, n4⟩ := (hs.spots.far hA).news
  have HBA : Hid (Below w.heap.size w ((w.alloc (.cells #[.slice none 0 0, .slice none 0 0] 33)).alloc (.cells #[] 79))) := by
    show Below _ _ _
    (repeat (first | exact Below.refl _ _ | assumption | refine below_dr ?_ _ | refine Below.alloc ?_ (by first | omega | (simp; done) | (simp; omega)) _ | refine Below.setCell ?_ (by first | omega | (simp; done) | (simp; omega)) _ | refine Below.trans ?_ (Below.mono (by assumption) (by first | omega | (simp; done) | (simp; omega)))))
  have HRA : Hid (OwnC ((w.alloc (.cells #[.slice none 0 0, .slice none 0 0] 33)).alloc (.cells #[] 79)) w.heap.size #[.slice none 0 0, .slice none 0 0] 33) := Lib.hid ((OwnC.new rfl).alloc _)
  have HNR : Hid (ORow ((w.alloc (.cells #[.slice none 0 0, .slice none 0 0] 33)).alloc (.cells #[] 79)) 79 3 (w.heap.size + 1) 0 0 []) := Lib.hid (by
    have := ORow.new (w.alloc (.cells #[.slice none 0 0, .slice none 0 0] 33)) 79 3
    simpa using this)
  have q0 := keep_cell HBA.out p0
  have N1 := Lib.hid n1
  have N2 := Lib.hid n2
  have N3 := Lib.hid n3
  have N4 := Lib.hid n4
  have HS := Lib.hid hs
  have HSH := Lib.hid hsh
  have H1 := Lib.hid h1
  have P0 := Lib.hid p0
  have P1 := Lib.hid p1
  have HP0 := Lib.hid hp0
  clear hs hsh h1 p0 p1 n1 n2 n3 n4 hA hp0
  go_enter Try.func62, Try.ntmps62
  go_wp2_with (at_builtin; refine wpList_spread rfl _ _ _ rfl 79 (.agg #[.float .f32 0, .float .f32 0, .float .f32 0]) 3 12 Try.underlying30 infoSpot' rfl (by decide) _ (w.heap.size + 1) 0 0 [] rfl HNR.out _ ps.length _ cs0 rfl N1.out N4.out N3.out HP0.out (by omega) (by decide) ?_; intro b1 cap1 w1 hr1 hb1 hl1 hg1)
  have hb1' : w.heap.size + 1 ≤ b1 := by simp at hb1; omega
  simp only [Nat.zero_add, List.nil_append] at hr1
  have z1 : w.heap.size + 1 + 1 ≤ w1.heap.size := by have := hg1.size; simpa using this
  have hBw1 : Below w.heap.size w w1 := HBA.out.trans (hg1.below (by omega) (by simp; omega))
  have hRw1 : OwnC w1 w.heap.size #[.slice none 0 0, .slice none 0 0] 33 := (hg1.block _ (by simp; omega) (by omega)).trans HRA.out
  have HB5 : Hid (Below w.heap.size w (w1.alloc (.cells #[.slice (some ⟨b1, 0, none⟩) ps.length cap1, .slice none 0 0] 33))) := Lib.hid (hBw1.alloc (by omega) _)
  have HR5 := Lib.hid (hRw1.alloc (.cells #[.slice (some ⟨b1, 0, none⟩) ps.length cap1, .slice none 0 0] 33))
  have HO5 : Hid (OwnC (w1.alloc (.cells #[.slice (some ⟨b1, 0, none⟩) ps.length cap1, .slice none 0 0] 33)) w1.heap.size #[.slice (some ⟨b1, 0, none⟩) ps.length cap1, .slice none 0 0] 33) := Lib.hid (OwnC.new rfl)
  have HS5 := Lib.hid (hr1.below (Below.alloc (Below.refl w1.heap.size w1) (Nat.le_refl _) (.cells #[.slice (some ⟨b1, 0, none⟩) ps.length cap1, .slice none 0 0] 33)) hl1)
  have z5 : (w1.alloc (.cells #[.slice (some ⟨b1, 0, none⟩) ps.length cap1, .slice none 0 0] 33)).heap.size = w1.heap.size + 1 := by simp
  clear hr1 hb1 hg1 hBw1 hRw1 HRA HNR N1 N3 N4 HBA q0
  generalize w1.alloc (.cells #[.slice (some ⟨b1, 0, none⟩) ps.length cap1, .slice none 0 0] 33) = w5 at *
  generalize w1.heap.size = ob at *
  have HI0 : Hid (CpI w5 w5 ob (.slice (some ⟨b1, 0, none⟩) ps.length cap1) fs 0) := Lib.hid ⟨.slice none 0 0, fun _ => 0, [], ORow0.nil _ _ _, FR.nil _ _ _ _ _, (fun b e => by cases e), HO5.out, Ch.refl _ _⟩
  clear HO5
  go_loopw [4] (fun i wr => ∃ j : Nat, j ≤ fs.length ∧ i = .int .i64 j ∧ Hid (CpI w5 wr ob (.slice (some ⟨b1, 0, none⟩) ps.length cap1) fs j)) (fun i _ => fs.length - (intOf i).toNat)
  case atStart => exact ⟨0, by omega, rfl, HI0⟩
  case round =>
    clear HI0
    obtain ⟨j, hj, rfl, HI⟩ := hrel
    obtain ⟨v, g, cs, hrow, hfr, hvb, hown, hch⟩ := HI.out
    have hfar : Far 0 w.heap.size w wr := (Far.below HB5.out (Nat.le_refl _)).trans (hch.far (by have := HB5.out.size; omega) (fun b _ h2 e => by omega))
    have p1 := (hfar.cell (Nat.zero_le _) hpb).trans P1.out
    have z6 := hch.size
    by_cases hlt : j < fs.length
    · obtain ⟨bf, of', rfl, f1, f2, hc⟩ := HS.out.facets (by omega)
      obtain ⟨ai, ci, hc1, hs1⟩ := hc j hlt
      have e1 := (hfar.cell (Nat.zero_le _) (by omega)).trans hc1
      have hsr := hs1.far (hfar.mono (Nat.zero_le lo) hh)
      have hl0 := H1.out j hlt
      obtain ⟨b3, o3, rfl, _, _, _⟩ := hsr hl0
      have hlj := HSH.out j hlt
      have o1 := hown.cell 1
      simp at o1
      have k0 : (0 : Int) ≤ (j : Int) := by omega
      have k1 : (j : Int) < (fs.length : Int) := by omega
      have hcl : cs.length = j := by have := hrow.1; omega
      have p1A := Trk.k2d (.cells #[] 2) p1
      have e1A := Trk.k2d (.cells #[] 2) e1
      have o1A := Trk.k2d (.cells #[] 2) o1
      have HAL : Hid (Below wr.heap.size wr ((wr.alloc (.cells #[] 2)).drew)) := Lib.hid (Below.drew (Below.alloc (Below.refl _ _) (Nat.le_refl _) _))
      have HRW : Hid (ORow0 ((wr.alloc (.cells #[] 2)).drew) 2 1 (.slice (some ⟨wr.heap.size, 0, none⟩) 0 0) 0 []) := Lib.hid (ORow.drewW (ORow.new wr _ _)).row0
      have HSN : Hid (∀ (i : Nat) (u : Value), ((fAt fs j).map (Value.int .i64))[i]? = some u → ((wr.alloc (.cells #[] 2)).drew).cell? ((⟨b3, o3, none⟩ : Addr).add i) = some u) := Lib.hid (hsr.far (Far.below HAL.out (by omega))).news
      have HROW := Lib.hid hrow
      have HFR := Lib.hid hfr
      have HVB := Lib.hid hvb
      have HOWN := Lib.hid hown
      have HCH := Lib.hid hch
      have HCL := Lib.hid hcl
      have HL0 := Lib.hid hl0
      clear hc hc1 hs1 hsr hrow hfr hvb hown hch hcl hl0 hfar HI
      go_wp2_with fail
      go_region_law (first
          | (refine step_spread rfl _ _ _ rfl 2 (.int .i64 0) 1 8 Try.underlying27 infoInt rfl (by decide) _ (.slice (some ⟨wr.heap.size, 0, none⟩) 0 0) 0 [] rfl HRW.out ⟨b3, o3, none⟩ (fAt fs j).length _ _ rfl (by simp) HSN.out ints_one HL0.out (by omega) (by decide) ?_; intro b6 c6 w6 hr6 hb6 hl6 hg6; simp only [Nat.zero_add, List.nil_append] at hr6; have HR6 := Lib.hid hr6; have B6 : Below wr.heap.size wr w6 := HAL.out.trans ⟨hg6.os, hg6.tape, hg6.output, hg6.size, fun c hc => hg6.block c (by simp; omega) (by simp [Value.ownBlock]; omega)⟩; have hb6' : wr.heap.size ≤ b6 := (by simp [Value.ownBlock] at hb6; omega); have p16 := keep_cell B6 p1; have e16 := keep_cell B6 e1; have o16 := keep_cell B6 o1; have o1B := keep_alloc (.cells #[.slice (some ⟨b6, 0, none⟩) (fAt fs j).length c6] 82) o16; have HRV : Hid (ORow0 (w6.alloc (.cells #[.slice (some ⟨b6, 0, none⟩) (fAt fs j).length c6] 82)) 82 1 v j cs) := Lib.hid (ORow0.below HROW.out (B6.alloc B6.size _)); have HB6 := Lib.hid B6; clear hr6 hb6 hg6 B6)
          | (refine step_spread rfl _ _ _ rfl 82 (.agg #[.slice none 0 0]) 1 24 Try.underlying31 infoFacet rfl (by decide) _ v j cs rfl HRV.out ⟨w6.heap.size, 0, none⟩ 1 1 [.slice (some ⟨b6, 0, none⟩) (fAt fs j).length c6] rfl rfl (World.news_of_block (heap_alloc_new w6 _)) (by simp [Value.oneCell']) (by decide) (by omega) (by decide) ?_; intro b7 c7 w7 hr7 hb7 hl7 hg7; have HST := Lib.hid (CpI.step HCL.out HROW.out HFR.out HVB.out HOWN.out HCH.out (by omega) HB6.out HR6.out hb6' hg7 hr7 (by simpa using hb7)); have hO7 : OwnC w7 ob #[.slice (some ⟨b1, 0, none⟩) ps.length cap1, v] 33 := (hg7.block ob (by have := HB6.out.size; simp; omega) (fun e => by have := HVB.out _ e.symm; omega)).trans ((HOWN.out.below HB6.out (by omega)).alloc _); have o17 := hO7.cell 1; have o17f := hO7.free 1; simp at o17; clear hr7 hb7 hg7 hO7))
      all_goals (try go_wp2_with fail)
      all_goals go_roundw
      all_goals first
        | exact ⟨j + 1, by omega, by go_num, HST⟩
        | (simp [intOf]; omega)
    · have hjn : j = fs.length := by omega
      subst hjn
      obtain ⟨b7, c7, rfl, hr7⟩ := ORow0.form hrow hn0
      have o0 := hown.cell 0
      have o1 := hown.cell 1
      have hR := (hch.own HR5.out (by omega))
      have r0 := hR.cell 0
      have r1 := hR.cell 1
      have g0 := hR.free 0
      have g1 := hR.free 1
      simp at o0 o1 r0 r1
      have hBw := Below.trans HB5.out (hch.toBelow (B := w.heap.size) (by have := HB5.out.size; omega) (fun b e => by omega))
      have hS : ORow wr 79 3 b1 cap1 ps.length cs0 := HS5.out.far (lo := b1) (hi := b1 + 1) (hch.far (by omega) (fun b h1 h2 e => by omega)) (Nat.le_refl _) (Nat.lt_succ_self _)
      have hb7 := hvb b7 rfl
      have HN : Hid (OwnNet wr (w.heap.size + 1) wr.heap.size b1 b7 g ps fs) := Lib.hid ⟨hS.spots N2.out, hS.room, (hfr.own hr7 hb7).lower (by omega), ⟨by omega, hS.lt⟩, ⟨by omega, fun i hi => by have := (hfr.blk i hi).1; omega⟩⟩
      have HBW := Lib.hid hBw
      have HRR := Lib.hid hR
      have hzz := hR.lt
      clear hBw hrow hfr hvb hown hch hr7 hR HI hS
      go_wp2_with fail
      have R := ((HRR.out.set 0 (.slice (some ⟨b1, 0, none⟩) ps.length cap1)).set 1 (.slice (some ⟨b7, 0, none⟩) fs.length c7))
      have q0 := R.cell 0
      have q1 := R.cell 1
      simp at q0 q1
      refine bodyPost_ret (v := .agg #[.slice (some ⟨b1, 0, none⟩) ps.length cap1, .slice (some ⟨b7, 0, none⟩) fs.length c7]) (by simp [results, Try.results62, go_sem, *]) rfl ⟨⟨b1, cap1, b7, c7, g, rfl, ?_⟩, ?_⟩
      · have hfin : Far (w.heap.size + 1) wr.heap.size wr ((wr.setCell ⟨w.heap.size, 0, none⟩ (.slice (some ⟨b1, 0, none⟩) ps.length cap1)).setCell ⟨w.heap.size, 1, none⟩ (.slice (some ⟨b7, 0, none⟩) fs.length c7)) := ((Far.refl _ _ _).set _ _ (by simp)).set _ _ (by simp)
        simp only [World.size_setCell]
        exact (HN.out.far hfin).lower (by omega)
      · exact (HBW.out.setCell (by simp) _).setCell (by simp) _
end Go.Proofs.Ytbmahankleijkaa

/- spec.l08Recover, spec.RecoverJournal: the lines of a journal found again. -/
import Derived.Test.YtkkijjgdjaedeaaDoorRcv
import Derived.Test.YtkkijjgdjaedeaaDoorChk
import Derived.Test.YtkkijjgdjaedeaaDoorMrkT
namespace Go.Fl
open Go.RowKit
/-- what is found again: the lines, where they end, whether the text is no longer than told -/
def RecJ (s : ByteArray) (xs : List ByteArray) (p : Nat) (ok : Bool) : Prop :=
  (s.size ≤ 16000 ∧ ok = true ∧ ∃ m, EndsJ (pieces s 10) (nl s) m ∧ xs = rout (pieces s 10) m ∧ p = rpos (pieces s 10) m) ∨ (16000 < s.size ∧ ok = false ∧ xs = [] ∧ p = 0)
theorem RecJ.unique {s : ByteArray} {xs xs' : List ByteArray} {p p' : Nat} {ok ok' : Bool} (h : RecJ s xs p ok) (h' : RecJ s xs' p' ok') : xs' = xs ∧ p' = p ∧ ok' = ok := by
  rcases h with ⟨h1, rfl, m, h2, rfl, rfl⟩ | ⟨h1, rfl, rfl, rfl⟩ <;> rcases h' with ⟨k1, rfl, m', k2, rfl, rfl⟩ | ⟨k1, rfl, rfl, rfl⟩
  · obtain rfl := h2.unique k2
    exact ⟨rfl, rfl, rfl⟩
  · omega
  · omega
  · exact ⟨rfl, rfl, rfl⟩
theorem RecJ.len {s : ByteArray} {xs : List ByteArray} {p : Nat} {ok : Bool} (h : RecJ s xs p ok) : xs.length ≤ 16000 ∧ p ≤ 16000 := by
  rcases h with ⟨h1, _, m, h2, rfl, rfl⟩ | ⟨_, _, rfl, rfl⟩
  · have := rpos_le s h2.1
    have h3 : m ≤ rpos (pieces s 10) m := by unfold rpos; omega
    rw [rout_len]; omega
  · simp
theorem ownS_row {w : World} {T : TypeId} {lo hi b cap n : Nat} {xs : List ByteArray} (h : ORow w T 1 b cap n (xs.map Value.string)) (hn : n = xs.length) (h1 : lo ≤ b) (h2 : b < hi) : OwnS w lo hi (some ⟨b, 0, none⟩) xs := fun _ =>
  ⟨b, rfl, h1, h2, by have := h.room; rw [hn, Nat.mul_one] at this; exact this, fun i hi => by
    rw [h.cell i (by omega), List.getElem?_map, List.getElem?_eq_getElem hi, sAt, List.getD_eq_getElem?_getD, List.getElem?_eq_getElem hi]
    rfl⟩
theorem Grew.cell_far {b c i : Nat} {w0 w1 : World} (h : Grew b w0 w1) (h1 : c < w0.heap.size) (h2 : c ≠ b) : w1.cell? ⟨c, i, none⟩ = w0.cell? ⟨c, i, none⟩ := World.cell?_of_block (h.block c h1 h2)
theorem not_good_no {ps : List ByteArray} {k : Nat} {L : ByteArray} (hL : sAt ps k = L) (h : ∀ i, i < L.size → bAt L i ≠ 32) : ¬ GoodJ ps k := fun ⟨h1, _⟩ => by
  rw [hL, spc_no h] at h1
  exact absurd h1 (by decide)
theorem not_good_ne {ps : List ByteArray} {k : Nat} {L : ByteArray} (hL : sAt ps k = L) (h : ((wordL L).toList == Lib.itoa (rch ps (k + 1))) = false) : ¬ GoodJ ps k := fun ⟨_, h2⟩ => by
  rw [hL] at h2
  rw [h2, ByteArray.toList_eq] at h
  simp at h
theorem good_of {ps : List ByteArray} {k : Nat} {L : ByteArray} (hL : sAt ps k = L) (h0 : 0 ≤ spc L) (h : ((wordL L).toList == Lib.itoa (rch ps (k + 1))) = true) : GoodJ ps k := by
  unfold GoodJ
  rw [hL]
  refine ⟨h0, ?_⟩
  have h2 : (wordL L).toList = Lib.itoa (rch ps (k + 1)) := by simpa using h
  apply ByteArray.ext
  apply Array.toList_inj.1
  rw [ByteArray.toList_eq] at h2
  exact h2
theorem good_succ {ps : List ByteArray} {k : Nat} (h : ∀ i, i < k → GoodJ ps i) (hk : GoodJ ps k) : ∀ i, i < k + 1 → GoodJ ps i := fun i hi => by
  rcases Nat.lt_succ_iff_lt_or_eq.1 hi with h1 | rfl
  · exact h i h1
  · exact hk
end Go.Fl
namespace Go.Proofs.YtkkijjgdjaedeaaDoor
open Go.RowKit Go.Fl

set_option maxHeartbeats 1000000 in
theorem l08RecoverP (s : ByteArray) (ps : List ByteArray) (hps : pieces s 10 = ps) (hs : s.size ≤ 16000) (w : World) :
    Calls Tryd.prog 9 #[.string s] w fun e w' => ∃ m b cap, EndsJ ps (nl s) m ∧ e = .returned (.tuple #[.slice (some ⟨b, 0, none⟩) m cap, .int .i64 (rpos ps m : Nat)]) ∧
      Hid (ORow w' 9 1 b cap m ((rout ps m).map Value.string)) ∧ w.heap.size ≤ b ∧ Below w.heap.size w w' := by
  have hl := pieces_nl s
  have hlines := fun w => hps ▸ l08Lines s (by omega) w
  have hline : ∀ k, k < nl s → (sAt ps k).size ≤ s.size := fun k h => hps ▸ line_le s h
  have hrpos : ∀ k, k ≤ nl s → rpos ps k ≤ s.size := fun k h => hps ▸ rpos_le s h
  rw [hps] at hl
  have HL1 := Lib.hid hlines
  have HL2 := Lib.hid hline
  have HL3 := Lib.hid hrpos
  clear hps hlines hline hrpos
  have hn := nl_le s
  go_enter Tryd.func9, Tryd.ntmps9
  go_wp2_with (go_at_call 12; refine (HL1.out _).mono ?_; rintro e w1 ⟨bl, cl, rfl, HS, hbl, hB⟩; have HB1 := Lib.hid hB; clear hB)
  go_loopw [6, 7, 8, 9, 10, 11] (fun o c p i _ _ wr => ∃ k b cap : Nat, k ≤ nl s ∧ i = .int .i64 k ∧ c = .int .i64 (rch ps k) ∧ p = .int .i64 (rpos ps k : Nat) ∧ o = .slice (some ⟨b, 0, none⟩) k cap ∧ Hid (∀ i, i < k → GoodJ ps i) ∧ Hid (ORow wr 9 1 b cap k ((rout ps k).map Value.string)) ∧ w1.heap.size ≤ b ∧ Hid (Below w1.heap.size w1 wr)) (fun _ _ _ i _ _ _ => nl s - (intOf i).toNat)
  case atStart =>
    refine ⟨0, w1.heap.size, 0, by omega, rfl, rfl, rfl, rfl, fun i h => absurd h (Nat.not_lt_zero _), ORow.new _ _ _, Nat.le_refl _, Below.alloc (Below.refl _ _) (Nat.le_refl _) _⟩
  case round =>
    obtain ⟨k, b, cap, hk, rfl, rfl, rfl, rfl, HG, HR, hbb, HW⟩ := hrel
    have hz := HW.out.size
    have hz1 := HB1.out.size
    by_cases hlt : k < nl s
    · have k0 : (0 : Int) ≤ (k : Int) := by omega
      have k1 : (k : Int) < (nl s : Int) := by omega
      have hblt : bl < w1.heap.size := World.block_lt_of_cell? w1 _ (HS.out k (by omega))
      have c1 : wr.cell? ⟨bl, k, none⟩ = some (.string (sAt ps k)) := (HW.out.cell (p := ⟨bl, k, none⟩) hblt).trans (HS.out k (by omega))
      have hls := HL2.out k hlt
      have hrp := HL3.out k hk
      generalize hL : sAt ps k = L at *
      have HL := Lib.hid hL
      clear hL
      go_wp2_with fail
      go_loop [10] (fun j => ∃ q : Nat, q ≤ L.size ∧ j = .int .i64 q ∧ Hid (∀ i, i < q → bAt L i ≠ 32)) (fun j => L.size - (intOf j).toNat)
      case atStart => exact ⟨0, by omega, rfl, fun i h => absurd h (Nat.not_lt_zero _)⟩
      case round =>
        obtain ⟨q, hq, rfl, HQ⟩ := hrel
        have q0 : (0 : Int) ≤ (q : Int) := by omega
        by_cases hql : q < L.size
        · have q1 : (q : Int) < (L.size : Int) := by omega
          have hb := bAt_lt hql
          by_cases he : bAt L q = 32
          · have he2 : (((L[q].toNat : Nat) : Int) == 32) = true := by rw [← hb, he]; rfl
            have he3 : ((q : Int) == (L.size : Int)) = false := by simp; omega
            have q2 : (q : Int) + 1 ≤ (L.size : Int) := by omega
            have q3 : (q : Int) ≤ (L.size : Int) := by omega
            have q4 : (0 : Int) ≤ (q : Int) + 1 := by omega
            have hsp : spc L = q := spc_at hql he HQ.out
            have htl : L.extract (q + 1) L.size = tailL L := by unfold tailL; rw [hsp]; rfl
            have hwl : L.extract 0 q = wordL L := by unfold wordL; rw [hsp]; rfl
            have htz := tailL_size L
            have hrr := rch_range ps k
            have hrr2 := rch_range ps (k + 1)
            have hck : chN (rch ps k) (tailL L) (tailL L).size = rch ps (k + 1) := by rw [rch, HL.out]
            clear hb he
            go_wp2_with (go_at_call 13; refine (l01Check _ hrr.1 hrr.2 (tailL L) (by omega) _).mono ?_; rintro e w2 ⟨rfl, rfl⟩; rw [hck])
            cases hq : ((wordL L).toList == Lib.itoa (rch ps (k + 1)))
            · have hng := not_good_ne HL.out hq
              go_region_held3 (fun w' => w'.cell? ⟨bl, k, none⟩ = some (.string L)) (first | go_keep | (exact keep_cell (by assumption) (by assumption)))
                ((go_at_call 14; refine (l01DecI _ hrr2.1 (by omega) _).mono ?_; rintro e w3 ⟨rfl, hb3⟩))
              have c3 : w3.cell? ⟨bl, k, none⟩ = some (.string L) := keep_cell (w := w2.drew) hb3 c1
              have HR3 := Lib.hid (ORow.below (show ORow w2.drew 9 1 b cap k _ from HR.out) hb3 HR.out.lt)
              have HW3 := Lib.hid (HW.out.drew.trans (hb3.mono HW.out.size))
              have hz3 : w2.heap.size ≤ w3.heap.size := hb3.size
              clear hb3 c1 HR HW
              go_wp2_with fail
              go_ret2
              exact ⟨k, b, cap, ⟨hk, HG.out, .inr hng⟩, rfl, HR3, by omega, HB1.out.trans (HW3.out.mono hz1)⟩
            · have HGK := Lib.hid (good_of HL.out (by rw [hsp]; omega) hq)
              go_region_held3 (fun w' => w'.cell? ⟨bl, k, none⟩ = some (.string L)) (first | go_keep | (exact keep_cell (by assumption) (by assumption)))
                ((go_at_call 14; refine (l01DecI _ hrr2.1 (by omega) _).mono ?_; rintro e w3 ⟨rfl, hb3⟩))
              have c3 : w3.cell? ⟨bl, k, none⟩ = some (.string L) := keep_cell (w := w2.drew) hb3 c1
              have HR3 := Lib.hid (ORow.below (show ORow w2.drew 9 1 b cap k _ from HR.out) hb3 HR.out.lt)
              have HW3 := Lib.hid (HW.out.drew.trans (hb3.mono HW.out.size))
              have hz3 : w2.heap.size ≤ w3.heap.size := hb3.size
              clear hb3 c1 HR HW
              have hsz3 : w1.heap.size ≤ w3.heap.size := HW3.out.size
              have hne : bl ≠ b := by omega
              go_wp2_with (at_builtin; refine wpList_app rfl _ _ _ rfl 9 (.string ⟨#[]⟩) 1 16 Tryd.underlying22 infoStr rfl (by decide) _ #[.string (tailL L)] 9 rfl (by simp [Value.oneCell']) b cap _ _ rfl rfl HR3.out (by omega) (by decide) ?_; intro b4 cap4 w4 hr4 hg4 hgr4; have c4 := (Grew.cell_far (c := bl) (i := k) hgr4 (by omega) hne).trans c3; have HR4 := Lib.hid hr4; have HW4 := Lib.hid (HW3.out.trans (hgr4.below hbb hsz3)); clear hr4 hgr4)
              have hrs : rpos ps (k + 1) = rpos ps k + (L.size + 1) := by rw [rpos_succ, HL.out]
              refine ⟨⟨k + 1, b4, cap4, by omega, by go_num, rfl, by rw [hrs]; go_num, rfl, good_succ HG.out HGK.out, ?_, by omega, HW4⟩, by simp [intOf]; omega⟩
              have := HR4.out
              rw [rout_succ, HL.out]
              simp only [List.map_append, List.map_cons, List.map_nil]
              exact this
          · have he2 : (((L[q].toNat : Nat) : Int) == 32) = false := by rw [← hb]; simp; exact he
            have HQ2 : Hid (∀ i, i < q + 1 → bAt L i ≠ 32) := fun i hi => by
              rcases Nat.lt_succ_iff_lt_or_eq.1 hi with h | rfl
              · exact HQ.out i h
              · exact he
            clear hb he
            go_wp2_with fail
            exact ⟨⟨q + 1, by omega, by go_num, HQ2⟩, by simp [intOf]; omega⟩
        · have hqq : q = L.size := by omega
          subst hqq
          have he3 : ((L.size : Int) == (L.size : Int)) = true := by simp
          go_wp2_with fail
          go_ret2
          exact ⟨k, ⟨hk, HG.out, .inr (not_good_no HL.out HQ.out)⟩, b, cap, rfl, HR, by omega, HB1.out.trans (HW.out.mono hz1)⟩
    · have hkk : k = nl s := by omega
      subst hkk
      go_wp2_with fail
      go_ret2
      exact ⟨nl s, b, cap, ⟨Nat.le_refl _, HG.out, .inl rfl⟩, rfl, HR, by omega, HB1.out.trans (HW.out.mono hz1)⟩

theorem rcvS (s : ByteArray) (w : World) :
    Calls Tryd.prog 4 #[.string s] w fun e w' => ∃ ao cap xs p ok, RecJ s xs p ok ∧ e = .returned (.tuple #[.slice ao (List.length xs) cap, .int .i64 (p : Nat), .bool ok]) ∧
      OwnS w' w.heap.size w'.heap.size ao xs ∧ Below w.heap.size w w' := by
  go_enter Tryd.func4, Tryd.ntmps4
  by_cases hsz : s.size ≤ 16000
  · have hsz1 : ¬ (16000 : Int) < (s.size : Int) := by omega
    go_wp2_with (go_at_call 9; refine (l08RecoverP s _ rfl hsz _).mono ?_; rintro e w1 ⟨m, b, cap, hE, rfl, HR, hb, hB⟩)
    go_ret3
    refine ⟨some ⟨b, 0, none⟩, cap, rout (pieces s 10) m, rpos (pieces s 10) m, true, .inl ⟨hsz, rfl, m, hE, rfl, rfl⟩, by rw [rout_len]; rfl, ownS_row HR.out (rout_len _ _).symm hb HR.out.lt, hB⟩
  · have hsz1 : (16000 : Int) < (s.size : Int) := by omega
    go_wp2_with fail
    go_ret3
    exact ⟨none, 0, [], 0, false, .inr ⟨by omega, rfl, rfl, rfl⟩, rfl, fun h => absurd h (Nat.not_lt_zero _), Below.refl _ _⟩
end Go.Proofs.YtkkijjgdjaedeaaDoor

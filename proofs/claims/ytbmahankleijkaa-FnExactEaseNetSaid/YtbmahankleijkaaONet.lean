/- Nets that a call made: their marks, and whether they are held. -/
import Derived.Test.YtbmahankleijkaaMkS
import Derived.Test.YtbmahankleijkaaOpNet
import Derived.Test.YtbmahankleijkaaVal
namespace Go.Proofs.Ytbmahankleijkaa
open Go.RowKit Go.Fl
/-- a net that a call made: each slice nil, or in a block of its own -/
structure ONet (w : World) (lo hi : Nat) (sa fa : Option Addr) (ps : List Sp) (fs : List (List Int)) : Prop where
  spots : OwnP w lo hi sa ps
  facets : (fa = none ∧ fs = []) ∨ ∃ bf g, fa = some ⟨bf, 0, none⟩ ∧ OwnF w lo hi bf g fs ∧ ∀ b, sa = some ⟨b, 0, none⟩ → b ≠ bf ∧ ∀ i, i < fs.length → g i ≠ b
theorem ONet.far {w w' : World} {lo hi : Nat} {sa fa : Option Addr} {ps : List Sp} {fs : List (List Int)} (h : ONet w lo hi sa fa ps fs) (hf : Far lo hi w w') : ONet w' lo hi sa fa ps fs :=
  ⟨h.spots.far hf, h.facets.imp id fun ⟨bf, g, e, ho, ha⟩ => ⟨bf, g, e, ho.far hf, ha⟩⟩
theorem ONet.net {w : World} {lo hi : Nat} {sa fa : Option Addr} {ps : List Sp} {fs : List (List Int)} (h : ONet w lo hi sa fa ps fs) : NetAt w lo hi sa fa ps fs := by
  refine ⟨h.spots.reads, ?_⟩
  rcases h.facets with ⟨rfl, rfl⟩ | ⟨bf, g, rfl, ho, _⟩
  · exact fun h => absurd h (Nat.not_lt_zero _)
  · exact ho.net
theorem ONet.nil (w : World) (lo hi : Nat) : ONet w lo hi none none [] [] := ⟨OwnP.nil _ _ _, .inl ⟨rfl, rfl⟩⟩
theorem OwnNet.onet {w : World} {lo hi bs bf : Nat} {g : Nat → Nat} {ps : List Sp} {fs : List (List Int)} (h : OwnNet w lo hi bs bf g ps fs) : ONet w lo hi (some ⟨bs, 0, none⟩) (some ⟨bf, 0, none⟩) ps fs :=
  ⟨⟨.inr ⟨bs, rfl, h.low.1, h.low.2, h.room, h.spots⟩⟩, .inr ⟨bf, g, rfl, h.facets, fun b hb => by cases hb; exact h.apart⟩⟩
/-- a net that bears its marks -/
structure MNet (w : World) (lo hi : Nat) (sa fa : Option Addr) (n : Nat) (fs : List (List Int)) (k : Int) : Prop where
  spots : SlM w lo hi sa n k
  facets : 0 < fs.length → ∃ bf, fa = some ⟨bf, 0, none⟩ ∧ lo ≤ bf ∧ bf < hi ∧ ∀ i, i < fs.length → ∃ ai ci, w.cell? ⟨bf, i, none⟩ = some (.slice ai (fAt fs i).length ci) ∧ SlI w lo hi ai (marks (k + n * 3 + sumTo fs i) (fAt fs i).length)
theorem MNet.far {w w' : World} {lo hi : Nat} {sa fa : Option Addr} {n : Nat} {fs : List (List Int)} {k : Int} (h : MNet w lo hi sa fa n fs k) (hf : Far lo hi w w') : MNet w' lo hi sa fa n fs k :=
  ⟨h.spots.far hf, fun hp => by
    obtain ⟨bf, e, h1, h2, hc⟩ := h.facets hp
    exact ⟨bf, e, h1, h2, fun i hi => by
      obtain ⟨ai, ci, c1, s1⟩ := hc i hi
      exact ⟨ai, ci, (hf.cell h1 h2).trans c1, s1.far hf⟩⟩⟩
/-- the call from w answers with the net of ps and fs, and with ok -/
def RetN (ps : List Sp) (fs : List (List Int)) (ok : Bool) (w : World) (e : Ending) (w' : World) : Prop :=
  (∃ sa fa c1 c2, e = .returned (.tuple #[netV sa fa ps.length c1 fs.length c2, .bool ok]) ∧ ONet w' w.heap.size w'.heap.size sa fa ps fs) ∧ Below w.heap.size w w'

theorem markNilF (c : Nat) (k : Int) (w : World) : Calls Try.prog 53 #[.slice none 0 c, .int .i64 k] w fun e w' => e = .returned (.int .i64 k) ∧ w' = w := by
  go_enter Try.func53, Try.ntmps53
  go_wp2_with fail
  refine wp_loop_rounds 1 ?_
  rw [rounds_succ]
  go_wp2_with fail
  go_ret
  exact ⟨rfl, rfl⟩
theorem markF (lo hi : Nat) (fa : Option Addr) (fs : List (List Int)) (c : Nat) (k : Int) (n : Nat) (hn : fs.length ≤ 1048576) (hsh : ∀ i, i < fs.length → (fAt fs i).length ≤ 1048576) (h0 : 0 ≤ k) (h1 : k + n * 3 ≤ 4294967296) (w : World)
    (sa : Option Addr) (hs : SlM w lo hi sa n k) (hsb : ∀ b o, sa = some ⟨b, o, none⟩ → o = 0)
    (hf : (fa = none ∧ fs = []) ∨ ∃ bf g, fa = some ⟨bf, 0, none⟩ ∧ OwnF w lo hi bf g fs ∧ ∀ b, sa = some ⟨b, 0, none⟩ → b ≠ bf ∧ ∀ i, i < fs.length → g i ≠ b) :
    Calls Try.prog 53 #[.slice fa fs.length c, .int .i64 (k + n * 3)] w fun e w' => e = .returned (.int .i64 (k + n * 3 + sumTo fs fs.length)) ∧ MNet w' lo hi sa fa n fs k ∧ Kept lo hi w w' := by
  rcases hf with ⟨rfl, rfl⟩ | ⟨bf, g, rfl, ho, hap⟩
  · refine (markNilF c _ w).mono ?_
    rintro e w' ⟨rfl, rfl⟩
    exact ⟨by simp [sumTo], ⟨hs, fun h => absurd h (Nat.not_lt_zero _)⟩, Kept.of_below (Below.refl _ _) _ _⟩
  · refine (markFacetS lo hi bf g fs c _ hn hsh (by omega) h1 w ho).mono ?_
    rintro e w' ⟨rfl, honly, hm⟩
    refine ⟨rfl, ⟨fun hp => ?_, fun hp => ⟨bf, rfl, ho.row.1, ho.row.2, fun i hi => ?_⟩⟩, honly.kept fun c hc => ?_⟩
    · obtain ⟨b, off, rfl, l1, l2, hc⟩ := hs hp
      obtain rfl := hsb b off rfl
      have hnb : ¬ Corn g fs.length b := by
        rintro ⟨i, hi, e⟩
        exact (hap b rfl).2 i hi e.symm
      exact ⟨b, 0, rfl, l1, l2, fun i hi => by
        obtain ⟨c1, c2, c3⟩ := hc i hi
        exact ⟨(honly.cell hnb).trans c1, (honly.cell hnb).trans c2, (honly.cell hnb).trans c3⟩⟩
    · obtain ⟨ci, hd⟩ := ho.head i hi
      have hb := ho.blk i hi
      refine ⟨_, ci, (honly.cell ?_).trans hd, (hm i hi).mono (by omega) (by omega)⟩
      rintro ⟨j, hj, e⟩
      exact (ho.blk j hj).2.2 e.symm
    · obtain ⟨i, hi, rfl⟩ := hc
      have := ho.blk i hi
      omega

theorem markSp (lo hi : Nat) (sa fa : Option Addr) (ps : List Sp) (fs : List (List Int)) (c : Nat) (k : Int) (hp : ps.length ≤ 1048576) (h0 : 0 ≤ k) (h1 : k ≤ 1152921504606846976) (w : World) (h : ONet w lo hi sa fa ps fs) :
    Calls Try.prog 28 #[.slice sa ps.length c, .int .i64 k] w fun e w' => e = .returned (.int .i64 (k + (ps.length : Int) * 3)) ∧ SlM w' lo hi sa ps.length k ∧ Kept lo hi w w' ∧ ((fa = none ∧ fs = []) ∨ ∃ bf g, fa = some ⟨bf, 0, none⟩ ∧ OwnF w' lo hi bf g fs ∧ ∀ b, sa = some ⟨b, 0, none⟩ → b ≠ bf ∧ ∀ i, i < fs.length → g i ≠ b) := by
  rcases h.spots.at' with ⟨rfl, rfl⟩ | ⟨b, rfl, l1, l2, hr, hs⟩
  · refine (markNilP c k w).mono ?_
    rintro e w' ⟨rfl, rfl⟩
    exact ⟨by simp, fun h => absurd h (Nat.not_lt_zero _), Kept.of_below (Below.refl _ _) _ _, h.facets⟩
  · refine (markSpotM b ps.length c k hp h0 h1 w hr).mono ?_
    rintro e w' ⟨rfl, hs', ho⟩
    refine ⟨rfl, hs'.mono (by omega) (by omega), ho.kept fun c hc => by omega, h.facets.imp id fun ⟨bf, g, e, hF, ha⟩ => ⟨bf, g, e, ?_, ha⟩⟩
    have hab := ha b rfl
    refine ⟨hF.row, fun i hi => ?_, hF.blk, hF.inj, fun i hi => ho.room _ _ (hF.room i hi), fun i hi => (hF.reads i hi).far (ho.far fun c hc => ?_), fun i hi ai n ci hc => hF.cap i hi ai n ci ((ho.cell (by intro h; exact hab.1 h.symm)).symm.trans hc)⟩
    · obtain ⟨ci, hc⟩ := hF.head i hi
      exact ⟨ci, (ho.cell (by intro h; exact hab.1 h.symm)).trans hc⟩
    · have := hab.2 i hi
      omega

set_option maxHeartbeats 1000000 in
theorem markO (lo hi : Nat) (sa fa : Option Addr) (ps : List Sp) (fs : List (List Int)) (c1 c2 : Nat) (k : Int) (hp : ps.length ≤ 1048576) (hn : fs.length ≤ 1048576) (hsh : ∀ i, i < fs.length → (fAt fs i).length ≤ 1048576) (h0 : 0 ≤ k) (h1 : k ≤ 16777216) (w : World)
    (hnet : ONet w lo hi sa fa ps fs) (hh : hi ≤ w.heap.size) :
    Calls Try.prog 18 #[netV sa fa ps.length c1 fs.length c2, .int .i64 k] w fun e w' => e = .returned (.int .i64 (k + ps.length * 3 + sumTo fs fs.length)) ∧ MNet w' lo hi sa fa ps.length fs k ∧ Kept lo hi w w' := by
  have hf0 : Far lo hi w (w.alloc (.cells #[.slice sa ps.length c1, .slice fa fs.length c2] 33)) := (Far.refl _ _ _).alloc _ hh
  have HN1 := Lib.hid (hnet.far hf0)
  have HSH := Lib.hid hsh
  have hsb : ∀ b o, sa = some ⟨b, o, none⟩ → o = 0 := fun b o e => by
    rcases hnet.spots.at' with ⟨rfl, _⟩ | ⟨b', e', _⟩
    · cases e
    · rw [e'] at e; cases e; rfl
  have HSB := Lib.hid hsb
  clear hnet hsh hsb hf0
  unfold netV
  go_enter Try.func18, Try.ntmps18
  go_wp2_with fail
  refine (markSp lo hi sa fa ps fs c1 k hp h0 (by omega) _ HN1.out).mono ?_
  rintro e w1 ⟨rfl, hm1, hk1, hf1⟩
  have c2' : w1.cell? ⟨w.heap.size, 1, none⟩ = some (.slice fa fs.length c2) := by
    rw [World.cell?_of_block (w := w.alloc (.cells #[.slice sa ps.length c1, .slice fa fs.length c2] 33)) (a := ⟨w.heap.size, 1, none⟩) (hk1.block w.heap.size (by simp) (show ¬ (lo ≤ w.heap.size ∧ w.heap.size < hi) by omega))]
    exact (OwnC.new rfl).cell 1
  have HF := Lib.hid hf1
  have HM := Lib.hid hm1
  have HK := Lib.hid hk1
  clear hm1 hk1 hf1
  go_wp2_with fail
  refine (markF lo hi fa fs c2 k ps.length hn HSH.out h0 (by omega) _ sa HM.out HSB.out HF.out).mono ?_
  rintro e w2 ⟨rfl, hm2, hk2⟩
  go_wp2_with fail
  go_ret
  exact ⟨rfl, hm2, (Kept.of_below (Below.alloc (Below.refl _ _) (Nat.le_refl _) _) lo hi).trans (HK.out.trans hk2)⟩

set_option maxHeartbeats 1000000 in
theorem heldF (lo hi : Nat) (sa fa : Option Addr) (n : Nat) (fs : List (List Int)) (c : Nat) (k : Int) (hn : fs.length ≤ 1048576) (hsh : ∀ i, i < fs.length → (fAt fs i).length ≤ 1048576) (h0 : 0 ≤ k) (h1 : k + n * 3 ≤ 4294967296) (w : World) (hm : MNet w lo hi sa fa n fs k) :
    Calls Try.prog 66 #[.slice fa fs.length c, .int .i64 (k + n * 3)] w fun e w' => e = .returned (.int .i64 (k + n * 3 + sumTo fs fs.length)) ∧ w' = w := by
  have HM := Lib.hid hm
  have HSH := Lib.hid hsh
  clear hm hsh
  go_enter Try.func66, Try.ntmps66
  go_wp2_with fail
  go_loopw [1, 5] (fun kk i wr => ∃ j : Nat, j ≤ fs.length ∧ i = .int .i64 j ∧ kk = .int .i64 (k + n * 3 + sumTo fs j) ∧ wr = w) (fun _ i _ => fs.length - (intOf i).toNat)
  case atStart => exact ⟨0, by omega, rfl, by simp [sumTo], rfl⟩
  case round =>
    obtain ⟨j, hj, rfl, rfl, rfl⟩ := hrel
    by_cases hlt : j < fs.length
    · obtain ⟨bf, rfl, l1, l2, hc⟩ := HM.out.facets (by omega)
      obtain ⟨ai, ci, e1, s1⟩ := hc j hlt
      have S1 := Lib.hid s1
      have hlj := HSH.out j hlt
      have hsum := sumTo_le HSH.out j (by omega)
      have k0 : (0 : Int) ≤ (j : Int) := by omega
      have k1 : (j : Int) < (fs.length : Int) := by omega
      clear hc s1
      go_wp2_with fail
      refine (heldInt64S lo hi ai (fAt fs j).length ci _ hlj (by omega) (by omega) _ S1.out).mono ?_
      rintro e w' ⟨rfl, rfl⟩
      have hpos : ¬ (k + n * 3 + sumTo fs j + (fAt fs j).length : Int) < 0 := by omega
      go_wp2_with fail
      go_roundw
      case rel => exact ⟨j + 1, by omega, by go_num, by simp only [sumTo]; congr 1; omega, trivial⟩
      case measure => simp [intOf]; omega
    · have hjn : j = fs.length := by omega
      subst hjn
      go_wp2_with fail
      go_ret
      exact ⟨rfl, rfl⟩

set_option maxHeartbeats 1000000 in
theorem heldO (lo hi : Nat) (sa fa : Option Addr) (n : Nat) (fs : List (List Int)) (c1 c2 : Nat) (k : Int) (hp : n ≤ 1048576) (hn : fs.length ≤ 1048576) (hsh : ∀ i, i < fs.length → (fAt fs i).length ≤ 1048576) (h0 : 0 ≤ k) (h1 : k ≤ 16777216) (w : World)
    (hm : MNet w lo hi sa fa n fs k) (hh : hi ≤ w.heap.size) :
    Calls Try.prog 32 #[netV sa fa n c1 fs.length c2, .int .i64 k] w fun e w' => e = .returned (.int .i64 (k + n * 3 + sumTo fs fs.length)) ∧ Below w.heap.size w w' := by
  have hf0 : Far lo hi w (w.alloc (.cells #[.slice sa n c1, .slice fa fs.length c2] 33)) := (Far.refl _ _ _).alloc _ hh
  have HM := Lib.hid (hm.far hf0)
  have HSH := Lib.hid hsh
  have A0 : OwnC (w.alloc (.cells #[.slice sa n c1, .slice fa fs.length c2] 33)) w.heap.size #[.slice sa n c1, .slice fa fs.length c2] 33 := OwnC.new rfl
  have HA := Lib.hid A0
  clear hm hsh hf0 A0
  unfold netV
  go_enter Try.func32, Try.ntmps32
  go_wp2_with fail
  refine (heldSpotS lo hi sa n c1 k hp h0 (by omega) _ HM.out.spots).mono ?_
  rintro e w1 ⟨rfl, q, rfl⟩
  have hpos : ¬ (k + n * 3 : Int) < 0 := by omega
  have HM1 : Hid (MNet ((w.alloc (.cells #[.slice sa n c1, .slice fa fs.length c2] 33)).drewN q) lo hi sa fa n fs k) := Lib.hid (HM.out.far ((Far.refl _ _ _).drewN q))
  go_wp2_with fail
  refine (heldF lo hi sa fa n fs c2 k hn HSH.out h0 (by omega) _ HM1.out).mono ?_
  rintro e w2 ⟨rfl, rfl⟩
  have hsum := sumTo_le HSH.out fs.length (Nat.le_refl _)
  have hpos2 : ¬ (k + n * 3 + sumTo fs fs.length : Int) < 0 := by omega
  go_wp2_with fail
  go_ret
  exact ⟨rfl, below_dr (by (repeat (first | exact Below.refl _ _ | assumption | refine below_dr ?_ _ | refine Below.alloc ?_ (by first | omega | (simp; done) | (simp; omega)) _ | refine Below.setCell ?_ (by first | omega | (simp; done) | (simp; omega)) _ | refine Below.trans ?_ (Below.mono (by assumption) (by first | omega | (simp; done) | (simp; omega)))))) q⟩
end Go.Proofs.Ytbmahankleijkaa

/- Equal curves, splines and sheets, marks on them, and whether they are held, by the law's own functions. (Written by mkrce.py.) -/
import Derived.Test.YtlpgaekkhlinhaaGreatDoorRcS
namespace Go.Fl
open Go.RowKit
/-- of the old blocks those of P alone turned from w to w' -/
structure Ch (P : Nat → Prop) (w w' : World) : Prop where
  os : w'.os = w.os
  tape : w'.tape = w.tape
  output : w'.output = w.output
  size : w.heap.size ≤ w'.heap.size
  block : ∀ b, b < w.heap.size → ¬ P b → w'.heap[b]? = w.heap[b]?
theorem Ch.refl (P : Nat → Prop) (w : World) : Ch P w w := ⟨rfl, rfl, rfl, Nat.le_refl _, fun _ _ _ => rfl⟩
theorem Ch.below {P : Nat → Prop} {w w' : World} (h : RowKit.Below w.heap.size w w') : Ch P w w' := ⟨h.os, h.tape, h.output, h.size, fun b hb _ => h.block b hb⟩
theorem Ch.trans {P P' : Nat → Prop} {w w1 w2 : World} (h : Ch P w w1) (k : Ch P' w1 w2) (hp : ∀ b, P' b → P b ∨ w.heap.size ≤ b) : Ch P w w2 :=
  ⟨k.os.trans h.os, k.tape.trans h.tape, k.output.trans h.output, Nat.le_trans h.size k.size, fun b hb hn => (k.block b (Nat.lt_of_lt_of_le hb h.size) (fun hq => by rcases hp b hq with h1 | h1; exact hn h1; omega)).trans (h.block b hb hn)⟩
theorem Ch.toBelow {P : Nat → Prop} {w w' : World} {B : Nat} (h : Ch P w w') (hB : B ≤ w.heap.size) (hp : ∀ b, P b → B ≤ b) : RowKit.Below B w w' :=
  ⟨h.os, h.tape, h.output, h.size, fun b hb => h.block b (by omega) (fun hq => by have := hp b hq; omega)⟩
theorem Ch.far {P : Nat → Prop} {w w' : World} {lo hi : Nat} (h : Ch P w w') (hh : hi ≤ w.heap.size) (hp : ∀ b, lo ≤ b → b < hi → ¬ P b) : Far lo hi w w' := fun b h1 h2 => h.block b (by omega) (hp b h1 h2)
theorem Ch.cell {P : Nat → Prop} {w w' : World} (h : Ch P w w') {b o : Nat} {v : Value} (hc : w.cell? ⟨b, o, none⟩ = some v) (hp : ¬ P b) : w'.cell? ⟨b, o, none⟩ = some v :=
  (World.cell?_of_block (w := w) (a := ⟨b, o, none⟩) (h.block b (World.block_lt_of_cell? w _ hc) hp)).trans hc
theorem Ch.own {P : Nat → Prop} {w w' : World} {b : Nat} {cs : Array Value} {T : TypeId} (h : Ch P w w') (hc : OwnC w b cs T) (hp : ¬ P b) : OwnC w' b cs T := (h.block b hc.lt hp).trans hc
theorem Ch.grew {P : Nat → Prop} {w w' : World} {b : Nat} (h : Grew b w w') (hp : P b) : Ch P w w' := ⟨h.os, h.tape, h.output, h.size, fun c hc hn => h.block c hc (fun e => hn (e ▸ hp))⟩
theorem Ch.set {P : Nat → Prop} (w : World) (a : Addr) (v : Value) (hp : P a.block) : Ch P w (w.setCell a v) := ⟨rfl, rfl, rfl, by simp, fun b _ hn => RowKit.Below.heap_setCell _ _ _ _ (fun e => hn (e ▸ hp))⟩
theorem Ch.drewN (P : Nat → Prop) (w : World) (n : Nat) : Ch P w (w.drewN n) := ⟨rfl, rfl, rfl, Nat.le_refl _, fun _ _ _ => rfl⟩
theorem Ch.mono {P P' : Nat → Prop} {w w' : World} (h : Ch P w w') (hp : ∀ b, P b → P' b) : Ch P' w w' := ⟨h.os, h.tape, h.output, h.size, fun b hb hn => h.block b hb (fun q => hn (hp b q))⟩
def spCs (ps : List Sp) : List Value := ps.flatMap fun p => [.float .f32 p.1, .float .f32 p.2.1, .float .f32 p.2.2]
theorem spCs_app (a b : List Sp) : spCs (a ++ b) = spCs a ++ spCs b := by simp [spCs]
theorem spCs_one (p : Sp) : spCs [p] = [.float .f32 p.1, .float .f32 p.2.1, .float .f32 p.2.2] := rfl
theorem spCs_len (ps : List Sp) : (spCs ps).length = ps.length * 3 := by
  induction ps with
  | nil => rfl
  | cons p ps ih =>
    rw [show spCs (p :: ps) = spCs [p] ++ spCs ps from spCs_app [p] ps, List.length_append, ih, spCs_one]
    simp; omega
theorem spCs_at (ps : List Sp) : ∀ i, i < ps.length → (spCs ps)[i * 3]? = some (.float .f32 (pAt ps i).1) ∧ (spCs ps)[i * 3 + 1]? = some (.float .f32 (pAt ps i).2.1) ∧ (spCs ps)[i * 3 + 2]? = some (.float .f32 (pAt ps i).2.2) := by
  induction ps with
  | nil => exact fun i h => absurd h (Nat.not_lt_zero _)
  | cons p ps ih =>
    intro i hi
    rw [show spCs (p :: ps) = [.float .f32 p.1, .float .f32 p.2.1, .float .f32 p.2.2] ++ spCs ps from spCs_app [p] ps]
    cases i with
    | zero => exact ⟨rfl, rfl, rfl⟩
    | succ i =>
      obtain ⟨a, b, c⟩ := ih i (by simpa using hi)
      have e : pAt (p :: ps) (i + 1) = pAt ps i := by simp [pAt]
      rw [e, List.getElem?_append_right (by simp; omega), List.getElem?_append_right (by simp; omega), List.getElem?_append_right (by simp; omega)]
      refine ⟨?_, ?_, ?_⟩
      · rw [← a]; congr 1; simp; omega
      · rw [← b]; congr 1; simp; omega
      · rw [← c]; congr 1; simp; omega
/-- block g is the walk's own and holds the spots ps -/
def OwnP1 (w : World) (g : Nat) (ps : List Sp) : Prop := Room w g (ps.length * 3) ∧ ∀ i, i < ps.length * 3 → w.cell? ⟨g, i, none⟩ = (spCs ps)[i]?
theorem OwnP1.far {w w' : World} {lo hi g : Nat} {l : List Sp} (h : OwnP1 w g l) (hf : Far lo hi w w') (h1 : lo ≤ g) (h2 : g < hi) : OwnP1 w' g l :=
  ⟨h.1.far hf h1 h2, fun i hi => (hf.cell h1 h2).trans (h.2 i hi)⟩
theorem OwnP1.row {w : World} {T : TypeId} {b cap n : Nat} {l : List Sp} (h : ORow w T 3 b cap n (spCs l)) (hn : n = l.length) : OwnP1 w b l := by
  subst hn
  exact ⟨h.room, fun i hi => h.cell i hi⟩
theorem OwnP1.slP {w : World} {g : Nat} {ps : List Sp} (h : OwnP1 w g ps) (hc : ∀ p, p ∈ ps → can .f32 p.1 = p.1 ∧ can .f32 p.2.1 = p.2.1 ∧ can .f32 p.2.2 = p.2.2) : SlP w g (g + 1) (some ⟨g, 0, none⟩) ps := fun _ => by
  refine ⟨g, 0, rfl, Nat.le_refl _, Nat.lt_succ_self _, fun i hi => ?_⟩
  obtain ⟨a, b, c⟩ := spCs_at ps i hi
  have hm : pAt ps i ∈ ps := by
    have : pAt ps i = ps[i] := by simp [pAt, hi]
    rw [this]; exact List.getElem_mem hi
  obtain ⟨e1, e2, e3⟩ := hc _ hm
  rw [Nat.zero_add]
  exact ⟨_, _, _, (h.2 _ (by omega)).trans a, (h.2 _ (by omega)).trans b, (h.2 _ (by omega)).trans c, e1, e2, e3⟩
theorem OwnP1.below {w w' : World} {B g : Nat} {l : List Sp} (h : OwnP1 w g l) (hb : Below B w w') (hg : g < B) : OwnP1 w' g l := h.far (Far.below hb (Nat.le_refl B)) (Nat.zero_le _) hg
/-- a slice of n spots at ao holds the marks from k on -/
def SlM (w : World) (lo hi : Nat) (ao : Option Addr) (n : Nat) (k : Int) : Prop :=
  0 < n → ∃ b off, ao = some ⟨b, off, none⟩ ∧ lo ≤ b ∧ b < hi ∧ ∀ i : Nat, i < n → w.cell? ⟨b, off + i * 3, none⟩ = some (.float .f32 (floatOfInt .f32 (k + (i : Int) * 3))) ∧
    w.cell? ⟨b, off + i * 3 + 1, none⟩ = some (.float .f32 (floatOfInt .f32 (k + (i : Int) * 3 + 1))) ∧ w.cell? ⟨b, off + i * 3 + 2, none⟩ = some (.float .f32 (floatOfInt .f32 (k + (i : Int) * 3 + 1 + 1)))
theorem SlM.far {w w' : World} {lo hi : Nat} {ao : Option Addr} {n : Nat} {k : Int} (h : SlM w lo hi ao n k) (hf : Far lo hi w w') : SlM w' lo hi ao n k := fun hp => by
  obtain ⟨b, off, e, h1, h2, hc⟩ := h hp
  exact ⟨b, off, e, h1, h2, fun i hi => by
    obtain ⟨c1, c2, c3⟩ := hc i hi
    exact ⟨(hf.cell h1 h2).trans c1, (hf.cell h1 h2).trans c2, (hf.cell h1 h2).trans c3⟩⟩
theorem SlM.mono {w : World} {lo hi lo' hi' : Nat} {ao : Option Addr} {n : Nat} {k : Int} (h : SlM w lo hi ao n k) (hl : lo' ≤ lo) (hh : hi ≤ hi') : SlM w lo' hi' ao n k := fun hp => by
  obtain ⟨b, off, e, h1, h2, hc⟩ := h hp
  exact ⟨b, off, e, by omega, by omega, hc⟩
theorem nearest_self (n : Int) : FloatKind.f32.format.order (floatOfInt .f32 n) (floatOfInt .f32 n) = some .eq := order_self (show nanB .f32 (floatOfInt .f32 n) = false from write_not_nan (k := .f32) (d := .number (n < 0) n.natAbs 0) rfl)
theorem nearest_ne (n : Int) : (FloatKind.f32.format.order (floatOfInt .f32 n) (floatOfInt .f32 n) != some .eq) = false := by rw [nearest_self]; rfl
/-- a slice of n numbers at ao holds the marks from k on -/
def SlK (w : World) (lo hi : Nat) (ao : Option Addr) (n : Nat) (k : Int) : Prop :=
  0 < n → ∃ b, ao = some ⟨b, 0, none⟩ ∧ lo ≤ b ∧ b < hi ∧ ∀ i : Nat, i < n → w.cell? ⟨b, i, none⟩ = some (.float .f32 (floatOfInt .f32 (k + (i : Int))))
theorem SlK.far {w w' : World} {lo hi : Nat} {ao : Option Addr} {n : Nat} {k : Int} (h : SlK w lo hi ao n k) (hf : Far lo hi w w') : SlK w' lo hi ao n k := fun hp => by
  obtain ⟨b, e, h1, h2, hc⟩ := h hp
  exact ⟨b, e, h1, h2, fun i hi => (hf.cell h1 h2).trans (hc i hi)⟩
theorem SlF.cells {w : World} {v : Value} {xs : List Nat} (h : SlF w v xs) (h0 : 0 < xs.length) : ∃ b off cap, v = .slice (some ⟨b, off, none⟩) xs.length cap ∧ ∀ i, i < xs.length → w.cell? ⟨b, off + i, none⟩ = some (.float .f32 (xs.getD i 0)) := by
  rcases h with ⟨_, rfl⟩ | ⟨b, off, cap, h1, _, h3⟩
  · exact absurd h0 (Nat.lt_irrefl 0)
  · exact ⟨b, off, cap, h1, h3⟩
end Go.Fl
namespace Go.Proofs.YtlpgaekkhlinhaaGreatDoor
open Go.RowKit Go.Fl

set_option maxHeartbeats 1000000 in
theorem markSpotM (b n c : Nat) (k : Int) (hn : n ≤ 1048576) (h0 : 0 ≤ k) (h1 : k ≤ 1152921504606846976) (w : World) (hr : Room w b (n * 3)) :
    Calls Tryz.prog 37 #[.slice (some ⟨b, 0, none⟩) n c, .int .i64 k] w fun e w' => e = .returned (.int .i64 (k + n * 3)) ∧ SlM w' b (b + 1) (some ⟨b, 0, none⟩) n k ∧ Only (fun c => c = b) w w' := by
  have HR := Lib.hid hr
  clear hr
  go_enter Tryz.func37, Tryz.ntmps37
  go_wp2_with fail
  go_loopw [1, 5] (fun kk i wr => ∃ j : Nat, j ≤ n ∧ i = .int .i64 j ∧ kk = .int .i64 (k + j * 3) ∧ Hid (Only (fun c => c = b) w wr) ∧ Hid (∀ t : Nat, t < j → wr.cell? ⟨b, t * 3, none⟩ = some (.float .f32 (floatOfInt .f32 (k + (t : Int) * 3))) ∧ wr.cell? ⟨b, t * 3 + 1, none⟩ = some (.float .f32 (floatOfInt .f32 (k + (t : Int) * 3 + 1))) ∧ wr.cell? ⟨b, t * 3 + 2, none⟩ = some (.float .f32 (floatOfInt .f32 (k + (t : Int) * 3 + 1 + 1))))) (fun _ i _ => n - (intOf i).toNat)
  case atStart => exact ⟨0, by omega, rfl, by simp, Only.refl _ _, fun t ht => absurd ht (Nat.not_lt_zero _)⟩
  case round =>
    obtain ⟨j, hj, rfl, rfl, HO, HC⟩ := hrel
    by_cases hlt : j < n
    · have hroom := HO.out.room _ _ HR.out
      obtain ⟨v, c1⟩ := hroom.cell (i := j * 3) (by omega)
      obtain ⟨v2, c2⟩ := hroom.cell (i := j * 3 + 1) (by omega)
      obtain ⟨v3, c3⟩ := hroom.cell (i := j * 3 + 2) (by omega)
      have d1 := hroom.free (j * 3)
      have d2 := hroom.free (j * 3 + 1)
      have d3 := hroom.free (j * 3 + 2)
      have k0 : (0 : Int) ≤ (j : Int) := by omega
      have k1 : (j : Int) < (n : Int) := by omega
      have D1 := Lib.hid c1
      have D2 := Lib.hid c2
      have D3 := Lib.hid c3
      clear hroom
      go_wp2_with fail
      go_roundw
      case rel =>
        refine ⟨j + 1, by omega, by go_num, by congr 1 <;> omega, ((HO.out.set _ _ _ rfl).set _ _ _ rfl).set _ _ _ rfl, fun t ht => ?_⟩
        by_cases htj : t = j
        · subst htj
          refine ⟨?_, ?_, ?_⟩
          · rw [World.cell?_setCell_other _ _ _ _ (by simp), World.cell?_setCell_other _ _ _ _ (by simp)]
            exact World.cell?_setCell_same _ _ _ D1.out
          · rw [World.cell?_setCell_other _ _ _ _ (by simp)]
            exact World.cell?_setCell_same _ _ _ ((World.cell?_setCell_other _ _ _ _ (by simp)).trans D2.out)
          · exact World.cell?_setCell_same _ _ _ ((World.cell?_setCell_other _ _ _ _ (by simp)).trans ((World.cell?_setCell_other _ _ _ _ (by simp)).trans D3.out))
        · obtain ⟨e1, e2, e3⟩ := HC.out t (by omega)
          refine ⟨?_, ?_, ?_⟩
          · rw [World.cell?_setCell_other _ _ _ _ (by first | omega | (simp; done) | (simp; omega)), World.cell?_setCell_other _ _ _ _ (by first | omega | (simp; done) | (simp; omega)), World.cell?_setCell_other _ _ _ _ (by first | omega | (simp; done) | (simp; omega))]; exact e1
          · rw [World.cell?_setCell_other _ _ _ _ (by first | omega | (simp; done) | (simp; omega)), World.cell?_setCell_other _ _ _ _ (by first | omega | (simp; done) | (simp; omega)), World.cell?_setCell_other _ _ _ _ (by first | omega | (simp; done) | (simp; omega))]; exact e2
          · rw [World.cell?_setCell_other _ _ _ _ (by first | omega | (simp; done) | (simp; omega)), World.cell?_setCell_other _ _ _ _ (by first | omega | (simp; done) | (simp; omega)), World.cell?_setCell_other _ _ _ _ (by first | omega | (simp; done) | (simp; omega))]; exact e3
      case measure => simp [intOf]; omega
    · have hjn : j = n := by omega
      subst hjn
      go_wp2_with fail
      go_ret
      exact ⟨rfl, fun _ => ⟨b, 0, rfl, Nat.le_refl _, Nat.lt_succ_self _, fun i hi => by rw [Nat.zero_add]; exact HC.out i hi⟩, HO.out⟩
set_option maxHeartbeats 1000000 in
theorem heldSpotS (lo hi : Nat) (a : Option Addr) (n c : Nat) (k : Int) (hn : n ≤ 1048576) (h0 : 0 ≤ k) (h1 : k ≤ 1152921504606846976) (w : World) (hs : SlM w lo hi a n k) :
    Calls Tryz.prog 38 #[.slice a n c, .int .i64 k] w fun e w' => e = .returned (.int .i64 (k + n * 3)) ∧ ∃ q, w' = w.drewN q := by
  have HS := Lib.hid hs
  have hns := nearest_ne
  clear hs
  go_enter Tryz.func38, Tryz.ntmps38
  go_wp2_with fail
  go_loopw [1, 5] (fun kk i wr => ∃ (j q : Nat), j ≤ n ∧ i = .int .i64 j ∧ kk = .int .i64 (k + j * 3) ∧ wr = w.drewN q) (fun _ i _ => n - (intOf i).toNat)
  case atStart => exact ⟨0, 0, by omega, rfl, by simp, rfl⟩
  case round =>
    obtain ⟨j, q, hj, rfl, rfl, rfl⟩ := hrel
    by_cases hlt : j < n
    · obtain ⟨b1, o1, rfl, _, _, hc⟩ := HS.out (by omega)
      obtain ⟨c1, c2, c3⟩ := hc j hlt
      have k0 : (0 : Int) ≤ (j : Int) := by omega
      have k1 : (j : Int) < (n : Int) := by omega
      clear hc
      go_wp2_with fail
      go_roundw
      case rel => exact ⟨j + 1, _, by omega, by go_num, by congr 1 <;> omega, rfl⟩
      case measure => simp [intOf]; omega
    · have hjn : j = n := by omega
      subst hjn
      go_wp2_with fail
      go_ret
      exact ⟨rfl, _, rfl⟩
set_option maxHeartbeats 1000000 in
theorem eqF (b1 o1 b2 o2 ca cb : Nat) (xs : List Nat) (hn : xs.length ≤ 1048576) (hok : xs.all (fun x => fin (can .f32 x)) = true) (w : World) (ha : ∀ i, i < xs.length → w.cell? ⟨b1, o1 + i, none⟩ = some (.float .f32 (xs.getD i 0))) (hb : ∀ i, i < xs.length → w.cell? ⟨b2, o2 + i, none⟩ = some (.float .f32 (xs.getD i 0))) :
    Calls Tryz.prog 27 #[.slice (some ⟨b1, o1, none⟩) xs.length ca, .slice (some ⟨b2, o2, none⟩) xs.length cb] w fun e w' => e = .returned (.bool true) ∧ ∃ n, w' = w.drewN n := by
  have HA := Lib.hid ha
  have HB := Lib.hid hb
  have HOK := Lib.hid hok
  clear ha hb hok
  go_enter Tryz.func27, Tryz.ntmps27
  go_wp2_with fail
  go_loopw [5] (fun i wr => ∃ k q : Nat, k ≤ xs.length ∧ i = .int .i64 k ∧ wr = w.drewN q) (fun i _ => xs.length - (intOf i).toNat)
  case atStart => exact ⟨0, 0, by omega, rfl, rfl⟩
  case round =>
    obtain ⟨k, q, hk, rfl, rfl⟩ := hrel
    by_cases hlt : k < xs.length
    · have c1 := HA.out k hlt
      have c2 := HB.out k hlt
      obtain ⟨x, hx⟩ : ∃ x, x = xs.getD k 0 := ⟨_, rfl⟩
      have hxn : nanB .f32 x = false := by
        have := List.all_eq_true.1 HOK.out _ (List.getElem_mem hlt)
        have e : xs.getD k 0 = xs[k] := by simp [hlt]
        rw [hx, e]; exact fin_nan this
      have hm : ∀ w, mcv .f32 .f64 x w = wid x := fun w => by simp [mcv, hxn, fits_widen x, wid]
      have hd : mcd .f32 .f64 x = 0 := by simp [mcd, hxn, fits_widen x]
      have dz : ∀ w : World, w.drewN 0 = w := World.drewN_zero
      rw [← hx] at c1 c2
      clear hx hxn
      have k0 : (0 : Int) ≤ (k : Int) := by omega
      have k1 : (k : Int) < (xs.length : Int) := by omega
      go_wp2_with fail
      go_quiet (first | (go_at_call 54; refine quiet_of2 (sameFloat _ _ rfl _)))
      go_wp2_with fail
      go_roundw
      case rel => exact ⟨k + 1, _, by omega, by go_num, by first | rfl | (simp only [World.drewN_drewN]; done)⟩
      case measure => simp [intOf]; omega
    · go_wp2_with fail
      go_ret
      exact ⟨rfl, _, rfl⟩
set_option maxHeartbeats 1000000 in
theorem markF (b n c : Nat) (k : Int) (hn : n ≤ 1048576) (h0 : 0 ≤ k) (h1 : k ≤ 1152921504606846976) (w : World) (hr : Room w b n) :
    Calls Tryz.prog 29 #[.slice (some ⟨b, 0, none⟩) n c, .int .i64 k] w fun e w' => e = .returned (.int .i64 (k + n)) ∧ SlK w' b (b + 1) (some ⟨b, 0, none⟩) n k ∧ Only (fun c => c = b) w w' := by
  have HR := Lib.hid hr
  clear hr
  go_enter Tryz.func29, Tryz.ntmps29
  go_wp2_with fail
  go_loopw [1, 5] (fun kk i wr => ∃ j : Nat, j ≤ n ∧ i = .int .i64 j ∧ kk = .int .i64 (k + j) ∧ Hid (Only (fun c => c = b) w wr) ∧ Hid (∀ t : Nat, t < j → wr.cell? ⟨b, t, none⟩ = some (.float .f32 (floatOfInt .f32 (k + (t : Int)))))) (fun _ i _ => n - (intOf i).toNat)
  case atStart => exact ⟨0, by omega, rfl, by simp, Only.refl _ _, fun t ht => absurd ht (Nat.not_lt_zero _)⟩
  case round =>
    obtain ⟨j, hj, rfl, rfl, HO, HC⟩ := hrel
    by_cases hlt : j < n
    · have hroom := HO.out.room _ _ HR.out
      obtain ⟨v, c1⟩ := hroom.cell hlt
      have c2 := hroom.free j
      have k0 : (0 : Int) ≤ (j : Int) := by omega
      have k1 : (j : Int) < (n : Int) := by omega
      clear hroom
      have HV := Lib.hid c1
      go_wp2_with fail
      go_roundw
      case rel =>
        refine ⟨j + 1, by omega, by go_num, by congr 1 <;> omega, HO.out.set _ _ _ rfl, fun t ht => ?_⟩
        by_cases ht2 : t = j
        · subst ht2
          exact World.cell?_setCell_same _ _ _ HV.out
        · rw [World.cell?_setCell_other _ _ _ _ (by first | omega | (simp; done) | (simp; omega))]
          exact HC.out t (by omega)
      case measure => simp [intOf]; omega
    · have hjn : j = n := by omega
      subst hjn
      go_wp2_with fail
      go_ret
      exact ⟨rfl, fun _ => ⟨b, rfl, Nat.le_refl _, Nat.lt_succ_self _, fun i hi => HC.out i hi⟩, HO.out⟩
set_option maxHeartbeats 1000000 in
theorem heldF (lo hi : Nat) (a : Option Addr) (n c : Nat) (k : Int) (hn : n ≤ 1048576) (h0 : 0 ≤ k) (h1 : k ≤ 1152921504606846976) (w : World) (hs : SlK w lo hi a n k) :
    Calls Tryz.prog 31 #[.slice a n c, .int .i64 k] w fun e w' => e = .returned (.int .i64 (k + n)) ∧ ∃ q, w' = w.drewN q := by
  have HS := Lib.hid hs
  have hns := nearest_ne
  clear hs
  go_enter Tryz.func31, Tryz.ntmps31
  go_wp2_with fail
  go_loopw [1, 5] (fun kk i wr => ∃ (j q : Nat), j ≤ n ∧ i = .int .i64 j ∧ kk = .int .i64 (k + j) ∧ wr = w.drewN q) (fun _ i _ => n - (intOf i).toNat)
  case atStart => exact ⟨0, 0, by omega, rfl, by simp, rfl⟩
  case round =>
    obtain ⟨j, q, hj, rfl, rfl, rfl⟩ := hrel
    by_cases hlt : j < n
    · obtain ⟨b1, rfl, _, _, hc⟩ := HS.out (by omega)
      have c1 := hc j hlt
      have k0 : (0 : Int) ≤ (j : Int) := by omega
      have k1 : (j : Int) < (n : Int) := by omega
      clear hc
      go_wp2_with fail
      go_roundw
      case rel => exact ⟨j + 1, _, by omega, by go_num, by congr 1 <;> omega, rfl⟩
      case measure => simp [intOf]; omega
    · have hjn : j = n := by omega
      subst hjn
      go_wp2_with fail
      go_ret
      exact ⟨rfl, _, rfl⟩
set_option maxHeartbeats 1000000 in
theorem eqCur (g1 c1 h1 d1 g2 c2 h2 d2 : Nat) (pts : List Cx) (ws : List Nat) (hn : pts.length ≤ 1048576) (hm : ws.length ≤ 1048576) (hok : pts.all okPt = true) (hfin : ws.all (fun x => fin (can .f32 x)) = true) (w : World)
    (a1 : OwnC1 w g1 pts) (a2 : OwnF1 w h1 ws) (b1 : OwnC1 w g2 pts) (b2 : OwnF1 w h2 ws) :
    Calls Tryz.prog 8 #[.agg #[.slice (some ⟨g1, 0, none⟩) pts.length c1, .slice (some ⟨h1, 0, none⟩) ws.length d1], .agg #[.slice (some ⟨g2, 0, none⟩) pts.length c2, .slice (some ⟨h2, 0, none⟩) ws.length d2]] w fun e w' => e = .returned (.bool true) ∧ Below w.heap.size w w' := by
  have hb : Below w.heap.size w ((w.alloc (.cells #[.slice (some ⟨g1, 0, none⟩) pts.length c1, .slice (some ⟨h1, 0, none⟩) ws.length d1] 25)).alloc (.cells #[.slice (some ⟨g2, 0, none⟩) pts.length c2, .slice (some ⟨h2, 0, none⟩) ws.length d2] 25)) := by
    show Below _ _ _
    (repeat (first | exact Below.refl _ _ | assumption | refine below_dr ?_ _ | refine Below.alloc ?_ (by first | omega | (simp; done) | (simp; omega)) _ | refine Below.setCell ?_ (by first | omega | (simp; done) | (simp; omega)) _ | refine Below.trans ?_ (Below.mono (by assumption) (by first | omega | (simp; done) | (simp; omega)))))
  have HA := Lib.hid (eqC1 0 _ 0 _ (some ⟨g1, 0, none⟩) (some ⟨g2, 0, none⟩) c1 c2 pts hn hok _ (a1.below hb a1.1.lt).rd (b1.below hb b1.1.lt).rd)
  have HB := Lib.hid (fun q => eqF h1 0 h2 0 d1 d2 ws hm hfin (((w.alloc (.cells #[.slice (some ⟨g1, 0, none⟩) pts.length c1, .slice (some ⟨h1, 0, none⟩) ws.length d1] 25)).alloc (.cells #[.slice (some ⟨g2, 0, none⟩) pts.length c2, .slice (some ⟨h2, 0, none⟩) ws.length d2] 25)).drewN q) (a2.below hb a2.1.lt).rd (b2.below hb b2.1.lt).rd)
  have HBL := Lib.hid hb
  clear a1 a2 b1 b2 hb
  go_enter Tryz.func8, Tryz.ntmps8
  go_wp2_with (first | (go_at_call 26; refine HA.out.mono ?_; rintro e w1 ⟨rfl, q1, rfl⟩) | (go_at_call 27; refine (HB.out _).mono ?_; rintro e w2 ⟨rfl, q2, rfl⟩))
  go_ret
  exact ⟨rfl, by (repeat (first | exact Below.refl _ _ | assumption | refine below_dr ?_ _ | refine Below.alloc ?_ (by first | omega | (simp; done) | (simp; omega)) _ | refine Below.setCell ?_ (by first | omega | (simp; done) | (simp; omega)) _ | refine Below.trans ?_ (Below.mono (by assumption) (by first | omega | (simp; done) | (simp; omega)))))⟩
set_option maxHeartbeats 1000000 in
theorem eqSpn (d : Int) (g1 c1 h1 d1 g2 c2 h2 d2 : Nat) (ks : List Nat) (pts : List Cx) (hn : pts.length ≤ 1048576) (hm : ks.length ≤ 1048576) (hok : pts.all okPt = true) (hfin : ks.all (fun x => fin (can .f32 x)) = true) (w : World)
    (a1 : OwnF1 w g1 ks) (a2 : OwnC1 w h1 pts) (b1 : OwnF1 w g2 ks) (b2 : OwnC1 w h2 pts) :
    Calls Tryz.prog 18 #[.agg #[.int .i64 d, .slice (some ⟨g1, 0, none⟩) ks.length c1, .slice (some ⟨h1, 0, none⟩) pts.length d1], .agg #[.int .i64 d, .slice (some ⟨g2, 0, none⟩) ks.length c2, .slice (some ⟨h2, 0, none⟩) pts.length d2]] w fun e w' => e = .returned (.bool true) ∧ Below w.heap.size w w' := by
  have hb : Below w.heap.size w ((w.alloc (.cells #[.int .i64 d, .slice (some ⟨g1, 0, none⟩) ks.length c1, .slice (some ⟨h1, 0, none⟩) pts.length d1] 39)).alloc (.cells #[.int .i64 d, .slice (some ⟨g2, 0, none⟩) ks.length c2, .slice (some ⟨h2, 0, none⟩) pts.length d2] 39)) := by
    show Below _ _ _
    (repeat (first | exact Below.refl _ _ | assumption | refine below_dr ?_ _ | refine Below.alloc ?_ (by first | omega | (simp; done) | (simp; omega)) _ | refine Below.setCell ?_ (by first | omega | (simp; done) | (simp; omega)) _ | refine Below.trans ?_ (Below.mono (by assumption) (by first | omega | (simp; done) | (simp; omega)))))
  have HA := Lib.hid (fun q => eqF g1 0 g2 0 c1 c2 ks hm hfin (((w.alloc (.cells #[.int .i64 d, .slice (some ⟨g1, 0, none⟩) ks.length c1, .slice (some ⟨h1, 0, none⟩) pts.length d1] 39)).alloc (.cells #[.int .i64 d, .slice (some ⟨g2, 0, none⟩) ks.length c2, .slice (some ⟨h2, 0, none⟩) pts.length d2] 39)).drewN q) (a1.below hb a1.1.lt).rd (b1.below hb b1.1.lt).rd)
  have HB := Lib.hid (fun q => eqC1 0 _ 0 _ (some ⟨h1, 0, none⟩) (some ⟨h2, 0, none⟩) d1 d2 pts hn hok (((w.alloc (.cells #[.int .i64 d, .slice (some ⟨g1, 0, none⟩) ks.length c1, .slice (some ⟨h1, 0, none⟩) pts.length d1] 39)).alloc (.cells #[.int .i64 d, .slice (some ⟨g2, 0, none⟩) ks.length c2, .slice (some ⟨h2, 0, none⟩) pts.length d2] 39)).drewN q) (a2.below hb a2.1.lt).rd (b2.below hb b2.1.lt).rd)
  have HBL := Lib.hid hb
  clear a1 a2 b1 b2 hb
  go_enter Tryz.func18, Tryz.ntmps18
  go_wp2_with (first | (go_at_call 27; refine (HA.out 0).mono ?_; rintro e w1 ⟨rfl, q1, rfl⟩) | (go_at_call 26; refine (HB.out _).mono ?_; rintro e w2 ⟨rfl, q2, rfl⟩))
  go_ret
  exact ⟨rfl, by (repeat (first | exact Below.refl _ _ | assumption | refine below_dr ?_ _ | refine Below.alloc ?_ (by first | omega | (simp; done) | (simp; omega)) _ | refine Below.setCell ?_ (by first | omega | (simp; done) | (simp; omega)) _ | refine Below.trans ?_ (Below.mono (by assumption) (by first | omega | (simp; done) | (simp; omega)))))⟩
set_option maxHeartbeats 1000000 in
theorem eqSht (x y : Int) (g1 c1 g2 c2 : Nat) (ps : List Sp) (hn : ps.length ≤ 1048576) (hc : ∀ p, p ∈ ps → can .f32 p.1 = p.1 ∧ can .f32 p.2.1 = p.2.1 ∧ can .f32 p.2.2 = p.2.2) (w : World)
    (a1 : OwnP1 w g1 ps) (b1 : OwnP1 w g2 ps) :
    Calls Tryz.prog 13 #[.agg #[.int .i64 x, .int .i64 y, .slice (some ⟨g1, 0, none⟩) ps.length c1], .agg #[.int .i64 x, .int .i64 y, .slice (some ⟨g2, 0, none⟩) ps.length c2]] w fun e w' => e = .returned (.bool true) ∧ Below w.heap.size w w' := by
  have hb : Below w.heap.size w ((w.alloc (.cells #[.int .i64 x, .int .i64 y, .slice (some ⟨g1, 0, none⟩) ps.length c1] 33)).alloc (.cells #[.int .i64 x, .int .i64 y, .slice (some ⟨g2, 0, none⟩) ps.length c2] 33)) := by
    show Below _ _ _
    (repeat (first | exact Below.refl _ _ | assumption | refine below_dr ?_ _ | refine Below.alloc ?_ (by first | omega | (simp; done) | (simp; omega)) _ | refine Below.setCell ?_ (by first | omega | (simp; done) | (simp; omega)) _ | refine Below.trans ?_ (Below.mono (by assumption) (by first | omega | (simp; done) | (simp; omega)))))
  have l1 := a1.1.lt
  have l2 := b1.1.lt
  have HA := Lib.hid (fun q => eqSpotS g1 (g1 + 1) g2 (g2 + 1) (some ⟨g1, 0, none⟩) (some ⟨g2, 0, none⟩) c1 c2 ps hn (((w.alloc (.cells #[.int .i64 x, .int .i64 y, .slice (some ⟨g1, 0, none⟩) ps.length c1] 33)).alloc (.cells #[.int .i64 x, .int .i64 y, .slice (some ⟨g2, 0, none⟩) ps.length c2] 33)).drewN q) ((a1.below hb l1).slP hc) ((b1.below hb l2).slP hc) (by simp; omega) (by simp; omega))
  have HBL := Lib.hid hb
  clear a1 b1 hb
  go_enter Tryz.func13, Tryz.ntmps13
  go_wp2_with (first | (go_at_call 36; refine (HA.out 0).mono ?_; rintro e w1 ⟨rfl, hb1⟩; have HB1 := Lib.hid hb1; clear hb1))
  go_ret
  exact ⟨rfl, HBL.out.trans (HB1.out.mono (by simp; omega))⟩
end Go.Proofs.YtlpgaekkhlinhaaGreatDoor
namespace Go.Fl
open Go.RowKit
theorem Ch.only {S : Nat → Prop} {w w' : World} (h : Only S w w') : Ch S w w' := ⟨h.os, h.tape, h.output, Nat.le_of_eq h.size.symm, fun c _ hc => h.block c hc⟩
theorem Ch.more {S S' : Nat → Prop} {a b c : World} (h : Ch S a b) (k : Ch S' b c) (hs : ∀ x, S' x → S x) : Ch S a c := h.trans k (fun b hb => .inl (hs b hb))
theorem Ch.farS {S : Nat → Prop} {w w' : World} (h : Ch S w w') {lo hi : Nat} (hh : hi ≤ w.heap.size) (hs : ∀ c, S c → c < lo ∨ hi ≤ c) : Far lo hi w w' := fun c h1 h2 => h.block c (by omega) (fun q => by have := hs c q; omega)
theorem Room.ch {S : Nat → Prop} {w w' : World} {b n : Nat} (h : Room w b n) (hc : Ch S w w') (hb : ¬ S b) : Room w' b n := Room.same (hc.block b h.lt hb) h
end Go.Fl
namespace Go.Proofs.YtlpgaekkhlinhaaGreatDoor
open Go.RowKit Go.Fl
set_option maxHeartbeats 1000000 in
theorem markCur (g h n c1 m c2 k : Nat) (hk : k + n < 2100) (hm : m ≤ 1048576) (hgh : g ≠ h) (w : World) (hr : Room w g n) (hs : Room w h m) :
    Calls Tryz.prog 9 #[.agg #[.slice (some ⟨g, 0, none⟩) n c1, .slice (some ⟨h, 0, none⟩) m c2], .int .i64 (k : Nat)] w fun e w' => e = .returned (.int .i64 (((k + n : Nat) : Int) + m)) ∧ SlC w' g (g + 1) (some ⟨g, 0, none⟩) (mL k n) ∧ SlK w' h (h + 1) (some ⟨h, 0, none⟩) m ((k + n : Nat) : Int) ∧ Ch (fun c => c = g ∨ c = h) w w' := by
  have hg1 := hr.lt
  have hh1 := hs.lt
  have hbA : Below w.heap.size w (w.alloc (.cells #[.slice (some ⟨g, 0, none⟩) n c1, .slice (some ⟨h, 0, none⟩) m c2] 25)) := Below.alloc (Below.refl _ _) (Nat.le_refl _) _
  have HR := Lib.hid (hr.far (Far.below hbA (Nat.le_refl _)) (Nat.zero_le _) hg1)
  have HS := Lib.hid (hs.far (Far.below hbA (Nat.le_refl _)) (Nat.zero_le _) hh1)
  have HP := Lib.hid (show OwnC (w.alloc (.cells #[.slice (some ⟨g, 0, none⟩) n c1, .slice (some ⟨h, 0, none⟩) m c2] 25)) w.heap.size #[.slice (some ⟨g, 0, none⟩) n c1, .slice (some ⟨h, 0, none⟩) m c2] 25 from OwnC.new rfl)
  have HBA := Lib.hid hbA
  have hsz : (w.alloc (.cells #[.slice (some ⟨g, 0, none⟩) n c1, .slice (some ⟨h, 0, none⟩) m c2] 25)).heap.size = w.heap.size + 1 := by simp
  clear hr hs hbA
  go_enter Tryz.func9, Tryz.ntmps9
  go_wp2_with (first
    | (go_at_call 28; refine (markC1 g n c1 k hk _ HR.out).mono ?_; rintro e w1 ⟨rfl, hs1, ho1⟩; have hP1 : OwnC w1 w.heap.size _ _ := (ho1.block _ (by omega)).trans HP.out; have p1 := hP1.cell 1; simp at p1; have HS1 := Lib.hid hs1; have HO1 := Lib.hid ho1; clear hs1 ho1 hP1)
    | (go_at_call 29; refine (markF h m c2 ((k + n : Nat) : Int) hm (by omega) (by omega) _ (HO1.out.room _ _ HS.out)).mono ?_; rintro e w2 ⟨rfl, hs2, ho2⟩; have HS2 := Lib.hid hs2; have HO2 := Lib.hid ho2; clear hs2 ho2))
  go_ret
  refine ⟨rfl, HS1.out.far (HO2.out.far (fun c hc => by omega)), HS2.out, ?_⟩
  exact ((Ch.below HBA.out).more (Ch.only HO1.out) (fun x hx => .inl hx)).more (Ch.only HO2.out) (fun x hx => .inr hx)
set_option maxHeartbeats 1000000 in
theorem markSpn (d : Int) (g h n c1 m c2 k : Nat) (hk : k + n + m < 2100) (hgh : g ≠ h) (w : World) (hr : Room w g n) (hs : Room w h m) :
    Calls Tryz.prog 19 #[.agg #[.int .i64 d, .slice (some ⟨g, 0, none⟩) n c1, .slice (some ⟨h, 0, none⟩) m c2], .int .i64 (k : Nat)] w fun e w' => e = .returned (.int .i64 (((k + n) + m : Nat) : Int)) ∧ SlK w' g (g + 1) (some ⟨g, 0, none⟩) n (k : Int) ∧ SlC w' h (h + 1) (some ⟨h, 0, none⟩) (mL (k + n) m) ∧ Ch (fun c => c = g ∨ c = h) w w' := by
  have hg1 := hr.lt
  have hh1 := hs.lt
  have hbA : Below w.heap.size w (w.alloc (.cells #[.int .i64 d, .slice (some ⟨g, 0, none⟩) n c1, .slice (some ⟨h, 0, none⟩) m c2] 39)) := Below.alloc (Below.refl _ _) (Nat.le_refl _) _
  have HR := Lib.hid (hr.far (Far.below hbA (Nat.le_refl _)) (Nat.zero_le _) hg1)
  have HS := Lib.hid (hs.far (Far.below hbA (Nat.le_refl _)) (Nat.zero_le _) hh1)
  have HP := Lib.hid (show OwnC (w.alloc (.cells #[.int .i64 d, .slice (some ⟨g, 0, none⟩) n c1, .slice (some ⟨h, 0, none⟩) m c2] 39)) w.heap.size #[.int .i64 d, .slice (some ⟨g, 0, none⟩) n c1, .slice (some ⟨h, 0, none⟩) m c2] 39 from OwnC.new rfl)
  have HBA := Lib.hid hbA
  clear hr hs hbA
  have HMF := Lib.hid (show ∀ W, Room W g n → Calls Tryz.prog 29 #[.slice (some ⟨g, 0, none⟩) n c1, .int .i64 (k : Nat)] W fun e w' => e = .returned (.int .i64 ((k + n : Nat) : Int)) ∧ SlK w' g (g + 1) (some ⟨g, 0, none⟩) n (k : Int) ∧ Only (fun c => c = g) W w' from fun W hW => by
    have := markF g n c1 (k : Int) (by omega) (by omega) (by omega) W hW
    simpa using this)
  go_enter Tryz.func19, Tryz.ntmps19
  go_wp2_with (first
    | (go_at_call 29; refine (HMF.out _ HR.out).mono ?_; rintro e w1 ⟨rfl, hs1, ho1⟩; have hP1 : OwnC w1 w.heap.size _ _ := (ho1.block _ (by omega)).trans HP.out; have p2 := hP1.cell 2; simp at p2; have HS1 := Lib.hid hs1; have HO1 := Lib.hid ho1; clear hs1 ho1 hP1)
    | (go_at_call 28; refine (markC1 h m c2 (k + n) hk _ (HO1.out.room _ _ HS.out)).mono ?_; rintro e w2 ⟨rfl, hs2, ho2⟩; have HS2 := Lib.hid hs2; have HO2 := Lib.hid ho2; clear hs2 ho2))
  go_ret
  refine ⟨rfl, HS1.out.far (HO2.out.far (fun c hc => by omega)), HS2.out, ?_⟩
  exact ((Ch.below HBA.out).more (Ch.only HO1.out) (fun x hx => .inl hx)).more (Ch.only HO2.out) (fun x hx => .inr hx)
set_option maxHeartbeats 1000000 in
theorem markSht (x y : Int) (g n c1 : Nat) (k : Int) (hn : n ≤ 1048576) (h0 : 0 ≤ k) (h1 : k ≤ 1152921504606846976) (w : World) (hr : Room w g (n * 3)) :
    Calls Tryz.prog 14 #[.agg #[.int .i64 x, .int .i64 y, .slice (some ⟨g, 0, none⟩) n c1], .int .i64 k] w fun e w' => e = .returned (.int .i64 (k + n * 3)) ∧ SlM w' g (g + 1) (some ⟨g, 0, none⟩) n k ∧ Ch (fun c => c = g) w w' := by
  have hg1 := hr.lt
  have hbA : Below w.heap.size w (w.alloc (.cells #[.int .i64 x, .int .i64 y, .slice (some ⟨g, 0, none⟩) n c1] 33)) := Below.alloc (Below.refl _ _) (Nat.le_refl _) _
  have HR := Lib.hid (hr.far (Far.below hbA (Nat.le_refl _)) (Nat.zero_le _) hg1)
  have HBA := Lib.hid hbA
  clear hr hbA
  go_enter Tryz.func14, Tryz.ntmps14
  go_wp2_with (go_at_call 37; refine (markSpotM g n c1 k hn h0 h1 _ HR.out).mono ?_; rintro e w1 ⟨rfl, hs1, ho1⟩; have HS1 := Lib.hid hs1; have HO1 := Lib.hid ho1; clear hs1 ho1)
  go_ret
  exact ⟨rfl, HS1.out, (Ch.below HBA.out).more (Ch.only HO1.out) (fun x hx => hx)⟩
set_option maxHeartbeats 1000000 in
theorem heldCur (g h n c1 m c2 k : Nat) (hk : k + n < 2100) (hm : m ≤ 1048576) (w : World) (hr : SlC w g (g + 1) (some ⟨g, 0, none⟩) (mL k n)) (hs : SlK w h (h + 1) (some ⟨h, 0, none⟩) m ((k + n : Nat) : Int)) (hg : g < w.heap.size) (hh : h < w.heap.size) :
    Calls Tryz.prog 10 #[.agg #[.slice (some ⟨g, 0, none⟩) n c1, .slice (some ⟨h, 0, none⟩) m c2], .int .i64 (k : Nat)] w fun e w' => e = .returned (.int .i64 (((k + n : Nat) : Int) + m)) ∧ Below w.heap.size w w' := by
  have hbA : Below w.heap.size w (w.alloc (.cells #[.slice (some ⟨g, 0, none⟩) n c1, .slice (some ⟨h, 0, none⟩) m c2] 25)) := Below.alloc (Below.refl _ _) (Nat.le_refl _) _
  have HR := Lib.hid (hr.far (Far.below hbA (by omega)))
  have HS := Lib.hid (hs.far (Far.below hbA (by omega)))
  have HBA := Lib.hid hbA
  have k0 : ¬ ((k + n : Nat) : Int) < 0 := by omega
  have k1 : ¬ ((k + n : Nat) : Int) + (m : Int) < 0 := by omega
  obtain ⟨K, hK⟩ : ∃ K, K = k + n := ⟨_, rfl⟩
  rw [← hK] at HS k0 k1 ⊢
  have HH := Lib.hid (heldC1 g (g + 1) (some ⟨g, 0, none⟩) n c1 k hk _ HR.out)
  rw [← hK] at HH
  have hK2 : K < 2100 := by omega
  clear hr hs hbA hK
  go_enter Tryz.func10, Tryz.ntmps10
  go_wp2_with (first
    | (go_at_call 30; refine HH.out.mono ?_; rintro e w1 ⟨rfl, rfl⟩)
    | (go_at_call 31; refine (heldF h (h + 1) (some ⟨h, 0, none⟩) m c2 (K : Int) hm (by omega) (by omega) _ HS.out).mono ?_; rintro e w2 ⟨rfl, q, rfl⟩))
  go_ret
  exact ⟨rfl, by have := HBA.out; (repeat (first | exact Below.refl _ _ | assumption | refine below_dr ?_ _ | refine Below.alloc ?_ (by first | omega | (simp; done) | (simp; omega)) _ | refine Below.setCell ?_ (by first | omega | (simp; done) | (simp; omega)) _ | refine Below.trans ?_ (Below.mono (by assumption) (by first | omega | (simp; done) | (simp; omega)))))⟩
set_option maxHeartbeats 1000000 in
theorem heldSpn (d : Int) (g h n c1 m c2 k : Nat) (hk : k + n + m < 2100) (w : World) (hr : SlK w g (g + 1) (some ⟨g, 0, none⟩) n (k : Int)) (hs : SlC w h (h + 1) (some ⟨h, 0, none⟩) (mL (k + n) m)) (hg : g < w.heap.size) (hh : h < w.heap.size) :
    Calls Tryz.prog 20 #[.agg #[.int .i64 d, .slice (some ⟨g, 0, none⟩) n c1, .slice (some ⟨h, 0, none⟩) m c2], .int .i64 (k : Nat)] w fun e w' => e = .returned (.int .i64 (((k + n) + m : Nat) : Int)) ∧ Below w.heap.size w w' := by
  have hbA : Below w.heap.size w (w.alloc (.cells #[.int .i64 d, .slice (some ⟨g, 0, none⟩) n c1, .slice (some ⟨h, 0, none⟩) m c2] 39)) := Below.alloc (Below.refl _ _) (Nat.le_refl _) _
  have HR := Lib.hid (hr.far (Far.below hbA (by omega)))
  have HS := Lib.hid (hs.far (Far.below hbA (by omega)))
  have HBA := Lib.hid hbA
  have k0 : ¬ ((k + n : Nat) : Int) < 0 := by omega
  have k1 : ¬ ((k + n + m : Nat) : Int) < 0 := by omega
  have hF := heldF g (g + 1) (some ⟨g, 0, none⟩) n c1 (k : Int) (by omega) (by omega) (by omega) _ HR.out
  rw [show (k : Int) + (n : Int) = ((k + n : Nat) : Int) by omega] at hF
  have HF := Lib.hid hF
  obtain ⟨K, hK⟩ : ∃ K, K = k + n := ⟨_, rfl⟩
  rw [← hK] at HS k0 k1 HF ⊢
  have hK2 : K + m < 2100 := by omega
  clear hr hs hbA hK hF
  go_enter Tryz.func20, Tryz.ntmps20
  go_wp2_with (first
    | (go_at_call 31; refine HF.out.mono ?_; rintro e w2 ⟨rfl, q, rfl⟩)
    | (go_at_call 30; refine (heldC1 h (h + 1) (some ⟨h, 0, none⟩) m c2 K hK2 _ (HS.out.far (Far.drewN (Far.refl _ _ _) _))).mono ?_; rintro e w1 ⟨rfl, rfl⟩))
  go_ret
  exact ⟨rfl, by have := HBA.out; (repeat (first | exact Below.refl _ _ | assumption | refine below_dr ?_ _ | refine Below.alloc ?_ (by first | omega | (simp; done) | (simp; omega)) _ | refine Below.setCell ?_ (by first | omega | (simp; done) | (simp; omega)) _ | refine Below.trans ?_ (Below.mono (by assumption) (by first | omega | (simp; done) | (simp; omega)))))⟩
set_option maxHeartbeats 1000000 in
theorem heldSht (x y : Int) (g n c1 : Nat) (k : Int) (hn : n ≤ 1048576) (h0 : 0 ≤ k) (h1 : k ≤ 1152921504606846976) (w : World) (hr : SlM w g (g + 1) (some ⟨g, 0, none⟩) n k) (hg : g < w.heap.size) :
    Calls Tryz.prog 15 #[.agg #[.int .i64 x, .int .i64 y, .slice (some ⟨g, 0, none⟩) n c1], .int .i64 k] w fun e w' => e = .returned (.int .i64 (k + n * 3)) ∧ Below w.heap.size w w' := by
  have hbA : Below w.heap.size w (w.alloc (.cells #[.int .i64 x, .int .i64 y, .slice (some ⟨g, 0, none⟩) n c1] 33)) := Below.alloc (Below.refl _ _) (Nat.le_refl _) _
  have HR := Lib.hid (hr.far (Far.below hbA (by omega)))
  have HBA := Lib.hid hbA
  have k0 : ¬ k + (n : Int) * 3 < 0 := by omega
  clear hr hbA
  go_enter Tryz.func15, Tryz.ntmps15
  go_wp2_with (go_at_call 38; refine (heldSpotS g (g + 1) (some ⟨g, 0, none⟩) n c1 k hn h0 h1 _ HR.out).mono ?_; rintro e w2 ⟨rfl, q, rfl⟩)
  go_ret
  exact ⟨rfl, by have := HBA.out; (repeat (first | exact Below.refl _ _ | assumption | refine below_dr ?_ _ | refine Below.alloc ?_ (by first | omega | (simp; done) | (simp; omega)) _ | refine Below.setCell ?_ (by first | omega | (simp; done) | (simp; omega)) _ | refine Below.trans ?_ (Below.mono (by assumption) (by first | omega | (simp; done) | (simp; omega)))))⟩
end Go.Proofs.YtlpgaekkhlinhaaGreatDoor

/- Contracts: marks on nets, and whether they are held, by the law's own functions. -/
import Derived.Test.YtbmahankleijkaaTo
import Derived.Test.YtbmahankleijkaaNf
namespace Go.Fl

/-- from w to w' only cells of blocks in S turned -/
structure Only (S : Nat → Prop) (w w' : World) : Prop where
  os : w'.os = w.os
  tape : w'.tape = w.tape
  output : w'.output = w.output
  size : w'.heap.size = w.heap.size
  block : ∀ c, ¬ S c → w'.heap[c]? = w.heap[c]?
  room : ∀ c n, Room w c n → Room w' c n
theorem Only.refl (S : Nat → Prop) (w : World) : Only S w w := ⟨rfl, rfl, rfl, rfl, fun _ _ => rfl, fun _ _ h => h⟩
theorem Only.trans {S : Nat → Prop} {a b c : World} (h : Only S a b) (k : Only S b c) : Only S a c :=
  ⟨k.os.trans h.os, k.tape.trans h.tape, k.output.trans h.output, k.size.trans h.size, fun i hi => (k.block i hi).trans (h.block i hi), fun i n hr => k.room i n (h.room i n hr)⟩
theorem Only.mono {S S' : Nat → Prop} {w w' : World} (h : Only S w w') (hs : ∀ c, S c → S' c) : Only S' w w' :=
  ⟨h.os, h.tape, h.output, h.size, fun c hc => h.block c (fun q => hc (hs c q)), h.room⟩
theorem Only.set {S : Nat → Prop} {a w : World} (h : Only S a w) (b i : Nat) (v : Value) (hb : S b) : Only S a (w.setCell ⟨b, i, none⟩ v) :=
  h.trans ⟨rfl, rfl, rfl, by simp, fun c hc => RowKit.Below.heap_setCell _ _ _ _ (fun e => hc (e ▸ hb)), fun c n hr => hr.set _ _ _⟩
theorem Only.far {S : Nat → Prop} {w w' : World} (h : Only S w w') {lo hi : Nat} (hs : ∀ c, S c → c < lo ∨ hi ≤ c) : Far lo hi w w' := fun c h1 h2 => h.block c (fun q => by have := hs c q; omega)
theorem Only.below {S : Nat → Prop} {w w' : World} (h : Only S w w') {B : Nat} (hs : ∀ c, S c → B ≤ c) : RowKit.Below B w w' :=
  ⟨h.os, h.tape, h.output, Nat.le_of_eq h.size.symm, fun c hc => h.block c (fun q => by have := hs c q; omega)⟩
theorem Only.cell {S : Nat → Prop} {w w' : World} (h : Only S w w') {b o : Nat} (hb : ¬ S b) : w'.cell? ⟨b, o, none⟩ = w.cell? ⟨b, o, none⟩ := World.cell?_of_block (w := w) (a := ⟨b, o, none⟩) (h.block b hb)

/-- from w to w' only blocks from lo up to hi turned, and new ones came -/
structure Kept (lo hi : Nat) (w w' : World) : Prop where
  os : w'.os = w.os
  tape : w'.tape = w.tape
  output : w'.output = w.output
  size : w.heap.size ≤ w'.heap.size
  block : ∀ c, c < w.heap.size → ¬ (lo ≤ c ∧ c < hi) → w'.heap[c]? = w.heap[c]?
theorem Kept.of_below {w w' : World} (h : RowKit.Below w.heap.size w w') (lo hi : Nat) : Kept lo hi w w' := ⟨h.os, h.tape, h.output, h.size, fun c hc _ => h.block c hc⟩
theorem Kept.trans {lo hi : Nat} {a b c : World} (h : Kept lo hi a b) (k : Kept lo hi b c) : Kept lo hi a c :=
  ⟨k.os.trans h.os, k.tape.trans h.tape, k.output.trans h.output, Nat.le_trans h.size k.size, fun i h1 h2 => (k.block i (Nat.lt_of_lt_of_le h1 h.size) h2).trans (h.block i h1 h2)⟩
theorem Only.kept {S : Nat → Prop} {w w' : World} (h : Only S w w') {lo hi : Nat} (hs : ∀ c, S c → lo ≤ c ∧ c < hi) : Kept lo hi w w' :=
  ⟨h.os, h.tape, h.output, Nat.le_of_eq h.size.symm, fun c _ hc => h.block c fun q => hc (hs c q)⟩
theorem Kept.far {lo hi a b : Nat} {w w' : World} (h : Kept lo hi w w') (hb : b ≤ w.heap.size) (hd : b ≤ lo ∨ hi ≤ a) : Far a b w w' := fun c h1 h2 => h.block c (by omega) (by omega)
theorem Kept.below {lo hi B : Nat} {w w' : World} (h : Kept lo hi w w') (hb : B ≤ w.heap.size) (hd : B ≤ lo) : RowKit.Below B w w' :=
  ⟨h.os, h.tape, h.output, h.size, fun c hc => h.block c (by omega) (by omega)⟩

/-- n numbers from k on -/
def marks (k : Int) (n : Nat) : List Int := (List.range n).map fun (i : Nat) => k + i
theorem marks_len (k : Int) (n : Nat) : (marks k n).length = n := by simp [marks]
theorem marks_at {k : Int} {n i : Nat} (h : i < n) : iAt (marks k n) i = k + i := by simp [marks, iAt, h]
end Go.Fl
namespace Go.Proofs.Ytbmahankleijkaa
open Go.RowKit Go.Fl

set_option maxHeartbeats 1000000 in
theorem markInt64S (b n c : Nat) (k : Int) (hn : n ≤ 1048576) (h0 : 0 ≤ k) (h1 : k ≤ 1152921504606846976) (w : World) (hr : Room w b n) :
    Calls Try.prog 19 #[.slice (some ⟨b, 0, none⟩) n c, .int .i64 k] w fun e w' => e = .returned (.int .i64 (k + n)) ∧ SlI w' b (b + 1) (some ⟨b, 0, none⟩) (marks k n) ∧ Only (fun c => c = b) w w' := by
  have HR := Lib.hid hr
  clear hr
  go_enter Try.func19, Try.ntmps19
  go_wp2_with fail
  go_loopw [1, 5] (fun kk i wr => ∃ j : Nat, j ≤ n ∧ i = .int .i64 j ∧ kk = .int .i64 (k + j) ∧ Hid (Only (fun c => c = b) w wr) ∧ Hid (∀ t : Nat, t < j → wr.cell? ⟨b, t, none⟩ = some (.int .i64 (k + t)))) (fun _ i _ => n - (intOf i).toNat)
  case atStart => exact ⟨0, by omega, rfl, by simp, Only.refl _ _, fun t ht => absurd ht (Nat.not_lt_zero _)⟩
  case round =>
    obtain ⟨j, hj, rfl, rfl, HO, HC⟩ := hrel
    by_cases hlt : j < n
    · have hroom := HO.out.room _ _ HR.out
      obtain ⟨v, c1⟩ := hroom.cell hlt
      have c2 := hroom.free j
      have k0 : (0 : Int) ≤ (j : Int) := by omega
      have k1 : (j : Int) < (n : Int) := by omega
      clear hroom
      have HV := Lib.hid c1
      go_wp2_with fail
      go_roundw
      case rel =>
        refine ⟨j + 1, by omega, by go_num, by congr 1 <;> omega, HO.out.set _ _ _ rfl, fun t ht => ?_⟩
        by_cases ht2 : t = j
        · subst ht2
          exact World.cell?_setCell_same _ _ _ HV.out
        · rw [World.cell?_setCell_other _ _ _ _ (by first | omega | (simp; done) | (simp; omega))]
          exact HC.out t (by omega)
      case measure => simp [intOf]; omega
    · have hjn : j = n := by omega
      subst hjn
      go_wp2_with fail
      go_ret
      refine ⟨rfl, fun _ => ⟨b, 0, rfl, Nat.le_refl _, Nat.lt_succ_self _, fun i hi => ?_⟩, HO.out⟩
      rw [marks_len] at hi
      rw [Nat.zero_add, HC.out i hi, marks_at hi]

set_option maxHeartbeats 1000000 in
theorem heldInt64S (lo hi : Nat) (a : Option Addr) (n c : Nat) (k : Int) (hn : n ≤ 1048576) (h0 : 0 ≤ k) (h1 : k ≤ 1152921504606846976) (w : World) (hs : SlI w lo hi a (marks k n)) :
    Calls Try.prog 20 #[.slice a n c, .int .i64 k] w fun e w' => e = .returned (.int .i64 (k + n)) ∧ w' = w := by
  have HS := Lib.hid hs
  clear hs
  go_enter Try.func20, Try.ntmps20
  go_wp2_with fail
  go_loopw [1, 5] (fun kk i wr => ∃ j : Nat, j ≤ n ∧ i = .int .i64 j ∧ kk = .int .i64 (k + j) ∧ wr = w) (fun _ i _ => n - (intOf i).toNat)
  case atStart => exact ⟨0, by omega, rfl, by simp, rfl⟩
  case round =>
    obtain ⟨j, hj, rfl, rfl, rfl⟩ := hrel
    by_cases hlt : j < n
    · obtain ⟨b1, o1, rfl, _, _, hc⟩ := HS.out (by rw [marks_len]; omega)
      have c1 := hc j (by rw [marks_len]; omega)
      rw [marks_at hlt] at c1
      have k0 : (0 : Int) ≤ (j : Int) := by omega
      have k1 : (j : Int) < (n : Int) := by omega
      clear hc
      go_wp2_with fail
      go_roundw
      case rel => exact ⟨j + 1, by omega, by go_num, by congr 1 <;> omega, trivial⟩
      case measure => simp [intOf]; omega
    · have hjn : j = n := by omega
      subst hjn
      go_wp2_with fail
      go_ret
      exact ⟨rfl, rfl⟩

set_option maxHeartbeats 1000000 in
theorem markSpotS (b n c : Nat) (k : Int) (hn : n ≤ 1048576) (h0 : 0 ≤ k) (h1 : k ≤ 1152921504606846976) (w : World) (hr : Room w b (n * 3)) :
    Calls Try.prog 28 #[.slice (some ⟨b, 0, none⟩) n c, .int .i64 k] w fun e w' => e = .returned (.int .i64 (k + n * 3)) ∧ Only (fun c => c = b) w w' := by
  have HR := Lib.hid hr
  clear hr
  go_enter Try.func28, Try.ntmps28
  go_wp2_with fail
  go_loopw [1, 5] (fun kk i wr => ∃ j : Nat, j ≤ n ∧ i = .int .i64 j ∧ kk = .int .i64 (k + j * 3) ∧ Hid (Only (fun c => c = b) w wr)) (fun _ i _ => n - (intOf i).toNat)
  case atStart => exact ⟨0, by omega, rfl, by simp, Only.refl _ _⟩
  case round =>
    obtain ⟨j, hj, rfl, rfl, HO⟩ := hrel
    by_cases hlt : j < n
    · have hroom := HO.out.room _ _ HR.out
      obtain ⟨v, c1⟩ := hroom.cell (i := j * 3) (by omega)
      obtain ⟨v2, c2⟩ := hroom.cell (i := j * 3 + 1) (by omega)
      obtain ⟨v3, c3⟩ := hroom.cell (i := j * 3 + 2) (by omega)
      have d1 := hroom.free (j * 3)
      have d2 := hroom.free (j * 3 + 1)
      have d3 := hroom.free (j * 3 + 2)
      have k0 : (0 : Int) ≤ (j : Int) := by omega
      have k1 : (j : Int) < (n : Int) := by omega
      clear hroom
      go_wp2_with fail
      go_roundw
      case rel => exact ⟨j + 1, by omega, by go_num, by congr 1 <;> omega, ((HO.out.set _ _ _ rfl).set _ _ _ rfl).set _ _ _ rfl⟩
      case measure => simp [intOf]; omega
    · have hjn : j = n := by omega
      subst hjn
      go_wp2_with fail
      go_ret
      exact ⟨rfl, HO.out⟩

/-- how many corners the first j facets have -/
def sumTo (fs : List (List Int)) : Nat → Nat
  | 0 => 0
  | j + 1 => sumTo fs j + (fAt fs j).length
theorem sumTo_le {fs : List (List Int)} (h : ∀ i, i < fs.length → (fAt fs i).length ≤ 1048576) : ∀ j, j ≤ fs.length → sumTo fs j ≤ j * 1048576
  | 0, _ => by simp [sumTo]
  | j + 1, hj => by
    have h1 := sumTo_le h j (by omega)
    have h2 := h j (by omega)
    simp only [sumTo]; omega

/-- the blocks of the first j facets -/
def Corn (g : Nat → Nat) (j : Nat) (c : Nat) : Prop := ∃ i, i < j ∧ c = g i

set_option maxHeartbeats 1000000 in
theorem markFacetS (lo hi bf : Nat) (g : Nat → Nat) (fs : List (List Int)) (c : Nat) (k : Int) (hn : fs.length ≤ 1048576) (hsh : ∀ i, i < fs.length → (fAt fs i).length ≤ 1048576) (h0 : 0 ≤ k) (h1 : k ≤ 4294967296) (w : World) (hf : OwnF w lo hi bf g fs) :
    Calls Try.prog 53 #[.slice (some ⟨bf, 0, none⟩) fs.length c, .int .i64 k] w fun e w' => e = .returned (.int .i64 (k + sumTo fs fs.length)) ∧ Only (Corn g fs.length) w w' ∧
      (∀ i, i < fs.length → SlI w' (g i) (g i + 1) (some ⟨g i, 0, none⟩) (marks (k + sumTo fs i) (fAt fs i).length)) := by
  have HF := Lib.hid hf
  have HSH := Lib.hid hsh
  clear hf hsh
  go_enter Try.func53, Try.ntmps53
  go_wp2_with fail
  go_loopw [1, 5] (fun kk i wr => ∃ j : Nat, j ≤ fs.length ∧ i = .int .i64 j ∧ kk = .int .i64 (k + sumTo fs j) ∧ Hid (Only (Corn g fs.length) w wr) ∧ Hid (∀ t : Nat, t < j → SlI wr (g t) (g t + 1) (some ⟨g t, 0, none⟩) (marks (k + sumTo fs t) (fAt fs t).length))) (fun _ i _ => fs.length - (intOf i).toNat)
  case atStart => exact ⟨0, by omega, rfl, by simp [sumTo], Only.refl _ _, fun t ht => absurd ht (Nat.not_lt_zero _)⟩
  case round =>
    obtain ⟨j, hj, rfl, rfl, HO, HC⟩ := hrel
    by_cases hlt : j < fs.length
    · have hroom := Lib.hid (HO.out.room _ _ (HF.out.room j hlt))
      obtain ⟨ci, hd⟩ := HF.out.head j hlt
      have c1 := (HO.out.cell (b := bf) (o := j) (by rintro ⟨i, hi, he⟩; exact (HF.out.blk i hi).2.2 he.symm)).trans hd
      have hlj := HSH.out j hlt
      have hsum := sumTo_le HSH.out j (by omega)
      have k0 : (0 : Int) ≤ (j : Int) := by omega
      have k1 : (j : Int) < (fs.length : Int) := by omega
      clear hd
      go_wp2_with (go_at_call 19; refine (markInt64S (g j) (fAt fs j).length ci (k + sumTo fs j) hlj (by omega) (by omega) _ hroom.out).mono ?_; rintro e w1 ⟨rfl, hs1, ho1⟩)
      go_roundw
      case rel =>
        refine ⟨j + 1, by omega, by go_num, by simp only [sumTo]; congr 1; omega, HO.out.trans (ho1.mono fun c hc => ⟨j, hlt, hc⟩), fun t ht => ?_⟩
        by_cases htj : t = j
        · subst htj; exact hs1
        · have hne := HF.out.inj t j (by omega) hlt
          exact (HC.out t (by omega)).far (ho1.far fun c hc => by omega)
      case measure => simp [intOf]; omega
    · have hjn : j = fs.length := by omega
      subst hjn
      go_wp2_with fail
      go_ret
      exact ⟨rfl, HO.out, HC.out⟩

set_option maxHeartbeats 1000000 in
theorem markNet (lo hi bs bf : Nat) (g : Nat → Nat) (ps : List Sp) (fs : List (List Int)) (c1 c2 : Nat) (k : Int) (hp : ps.length ≤ 1048576) (hn : fs.length ≤ 1048576) (hsh : ∀ i, i < fs.length → (fAt fs i).length ≤ 1048576) (h0 : 0 ≤ k) (h1 : k ≤ 16777216) (w : World)
    (hnet : OwnNet w lo hi bs bf g ps fs) (hh : hi ≤ w.heap.size) :
    Calls Try.prog 18 #[netV (some ⟨bs, 0, none⟩) (some ⟨bf, 0, none⟩) ps.length c1 fs.length c2, .int .i64 k] w fun e w' => e = .returned (.int .i64 (k + ps.length * 3 + sumTo fs fs.length)) ∧ Kept lo hi w w' ∧
      (∀ i, i < fs.length → SlI w' (g i) (g i + 1) (some ⟨g i, 0, none⟩) (marks (k + ps.length * 3 + sumTo fs i) (fAt fs i).length)) := by
  have HN := Lib.hid hnet
  have HSH := Lib.hid hsh
  clear hnet hsh
  unfold netV
  go_enter Try.func18, Try.ntmps18
  go_wp2_with fail
  have hf0 : Far lo hi w (w.alloc (.cells #[.slice (some ⟨bs, 0, none⟩) ps.length c1, .slice (some ⟨bf, 0, none⟩) fs.length c2] 33)) := (Far.refl _ _ _).alloc _ hh
  have hN1 := HN.out.far hf0
  have HN1 := Lib.hid hN1
  clear hf0 hN1
  refine (markSpotS bs ps.length c1 k hp h0 (by omega) _ HN1.out.room).mono ?_
  rintro e w1 ⟨rfl, ho1⟩
  have hlow := HN.out.low
  have hf1 : Far lo hi (w.alloc (.cells #[.slice (some ⟨bs, 0, none⟩) ps.length c1, .slice (some ⟨bf, 0, none⟩) fs.length c2] 33)) w1 → True := fun _ => trivial
  have hF : OwnF w1 lo hi bf g fs := by
    have hF0 := HN1.out.facets
    have hap := HN.out.apart
    refine ⟨hF0.row, fun i hi => ?_, hF0.blk, hF0.inj, fun i hi => ho1.room _ _ (hF0.room i hi), fun i hi => (hF0.reads i hi).far (ho1.far fun c hc => ?_), fun i hi ai n ci hc => hF0.cap i hi ai n ci ((ho1.cell (by intro h; exact hap.1 h.symm)).symm.trans hc)⟩
    · obtain ⟨ci, hc⟩ := hF0.head i hi
      exact ⟨ci, (ho1.cell (by intro h; exact hap.1 h.symm)).trans hc⟩
    · have := hap.2 i hi
      omega
  have c2' : w1.cell? ⟨w.heap.size, 1, none⟩ = some (.slice (some ⟨bf, 0, none⟩) fs.length c2) := by
    rw [ho1.cell (by intro h; omega)]
    exact (OwnC.new rfl).cell 1
  have HO := Lib.hid ho1
  have HF := Lib.hid hF
  clear ho1 hF hf1
  go_wp2_with fail
  refine (markFacetS lo hi bf g fs c2 _ hn HSH.out (by omega) (by omega) _ HF.out).mono ?_
  rintro e w2 ⟨rfl, ho2, hc2⟩
  go_wp2_with fail
  go_ret
  refine ⟨rfl, ?_, hc2⟩
  refine (Kept.of_below (Below.alloc (Below.refl _ _) (Nat.le_refl _) _) lo hi).trans ((HO.out.kept fun c hc => by omega).trans (ho2.kept fun c hc => ?_))
  obtain ⟨i, hi, rfl⟩ := hc
  have := HF.out.blk i hi
  omega
end Go.Proofs.Ytbmahankleijkaa

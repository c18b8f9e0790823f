/- impl.clip walked: what of points is on the left of a line. -/
import Derived.Test.YtkpjhoiaegioeaaHuF
namespace Go.Fl
open Ieee Go.RowKit
/-- both parts are numbers -/
def nN (z : Cx) : Prop := isN .f32 z.1 = true ∧ isN .f32 z.2 = true
def crossF (p q : Cx) : Nat := fop .sub .f32 (fop .mul .f32 p.1 q.2) (fop .mul .f32 p.2 q.1)
def crossN (p q : Cx) : Prop := isN .f32 (fop .mul .f32 p.1 q.2) = true ∧ isN .f32 (fop .mul .f32 p.2 q.1) = true ∧ isN .f32 (crossF p q) = true
def sideF (a b z : Cx) : Nat := crossF (minusF b a) (minusF z a)
def tF (g h : Nat) : Nat := fop .quo .f32 g (fop .sub .f32 g h)
def newF (p q : Cx) (g h : Nat) : Cx := plusF p (scaleF (minusF q p) (tF g h))
def negB (g : Nat) : Bool := FloatKind.f32.format.order g 0 == some .lt
def clipAt (p q : Cx) (g h : Nat) : List Cx := (if negB g != negB h then [newF p q g h] else []) ++ (if negB h then [] else [q])
def clipTo (xs : List Cx) (a b : Cx) : Nat → List Cx
  | 0 => []
  | k + 1 => clipTo xs a b k ++ clipAt (cAt xs (pv xs.length k)) (cAt xs k) (sideF a b (cAt xs (pv xs.length k))) (sideF a b (cAt xs k))
theorem clipTo_len (xs : List Cx) (a b : Cx) : ∀ k, (clipTo xs a b k).length ≤ 2 * k
  | 0 => Nat.le_refl _
  | k + 1 => by
    have := clipTo_len xs a b k
    show (clipTo xs a b k ++ clipAt _ _ _ _).length ≤ _
    unfold clipAt
    rw [List.length_append, List.length_append]
    have h1 : ∀ (c : Bool) (z : Cx), (if c then [z] else []).length ≤ 1 := fun c z => by cases c <;> simp
    have h2 : ∀ (c : Bool) (z : Cx), (if c then [] else [z]).length ≤ 1 := fun c z => by cases c <;> simp
    have a1 := h1 (negB (sideF a b (cAt xs (pv xs.length k))) != negB (sideF a b (cAt xs k))) (newF (cAt xs (pv xs.length k)) (cAt xs k) (sideF a b (cAt xs (pv xs.length k))) (sideF a b (cAt xs k)))
    have a2 := h2 (negB (sideF a b (cAt xs k))) (cAt xs k)
    omega
/-- every number that is made on the way is one -/
structure ClipOk (xs : List Cx) (a b : Cx) : Prop where
  d : nN (minusF b a)
  e : ∀ i, i < xs.length → nN (minusF (cAt xs i) a) ∧ crossN (minusF b a) (minusF (cAt xs i) a)
  w : ∀ i, i < xs.length → negB (sideF a b (cAt xs (pv xs.length i))) ≠ negB (sideF a b (cAt xs i)) → nN (minusF (cAt xs i) (cAt xs (pv xs.length i))) ∧ isN .f32 (fop .sub .f32 (sideF a b (cAt xs (pv xs.length i))) (sideF a b (cAt xs i))) = true ∧
    isN .f32 (tF (sideF a b (cAt xs (pv xs.length i))) (sideF a b (cAt xs i))) = true ∧ nN (scaleF (minusF (cAt xs i) (cAt xs (pv xs.length i))) (tF (sideF a b (cAt xs (pv xs.length i))) (sideF a b (cAt xs i)))) ∧
    nN (newF (cAt xs (pv xs.length i)) (cAt xs i) (sideF a b (cAt xs (pv xs.length i))) (sideF a b (cAt xs i)))
  n : ∀ z, z ∈ clipTo xs a b xs.length → nN z
theorem nN.ok {z : Cx} (h : nN z) : okPt z = true := by unfold okPt; rw [finN h.1, finN h.2]; rfl
theorem all_ok {xs : List Cx} (h : ∀ z, z ∈ xs → nN z) : xs.all okPt = true := List.all_eq_true.2 fun z hz => (h z hz).ok
theorem meas_upI {k N : Nat} (h : (k : Int) < (N : Int)) : N - (intOf (.int .i64 ((k : Int) + 1))).toNat < N - (intOf (.int .i64 (k : Int))).toNat := by
  show N - ((k : Int) + 1).toNat < N - ((k : Int)).toNat
  omega
/-- the first k sides -/
def sideL (xs : List Cx) (a b : Cx) (k : Nat) : List Nat := (List.range k).map fun i => sideF a b (cAt xs i)
theorem sideL_succ (xs : List Cx) (a b : Cx) (k : Nat) : sideL xs a b (k + 1) = sideL xs a b k ++ [sideF a b (cAt xs k)] := by simp [sideL, List.range_succ]
theorem sideL_len (xs : List Cx) (a b : Cx) (k : Nat) : (sideL xs a b k).length = k := by simp [sideL]
theorem sideL_at {xs : List Cx} {a b : Cx} {k i : Nat} (h : i < k) : (sideL xs a b k).getD i 0 = sideF a b (cAt xs i) := by simp [sideL, h]
end Go.Fl
namespace Go.Proofs.Ytkpjhoiaegioeaa
open Go.RowKit Go.Fl

theorem minusN {a b : Cx} (h : nN (minusF a b)) (w : World) : Calls Try.prog 47 #[cV a, cV b] w fun x w' => x = .returned (cV (minusF a b)) ∧ w' = w := by
  obtain ⟨m1, d1⟩ := run_fopN (op := .sub) (x := a.1) (y := b.1) h.1
  obtain ⟨m2, d2⟩ := run_fopN (op := .sub) (x := a.2) (y := b.2) h.2
  have dz : ∀ w : World, w.drewN 0 = w := World.drewN_zero
  obtain ⟨a1, a2⟩ := a
  obtain ⟨b1, b2⟩ := b
  clear h
  unfold cV
  go_enter Try.func47, Try.ntmps47
  go_wp2_with fail
  go_ret
  exact ⟨rfl, rfl⟩
theorem plusN {a b : Cx} (h : nN (plusF a b)) (w : World) : Calls Try.prog 49 #[cV a, cV b] w fun x w' => x = .returned (cV (plusF a b)) ∧ w' = w := by
  obtain ⟨m1, d1⟩ := run_fopN (op := .add) (x := a.1) (y := b.1) h.1
  obtain ⟨m2, d2⟩ := run_fopN (op := .add) (x := a.2) (y := b.2) h.2
  have dz : ∀ w : World, w.drewN 0 = w := World.drewN_zero
  obtain ⟨a1, a2⟩ := a
  obtain ⟨b1, b2⟩ := b
  clear h
  unfold cV
  go_enter Try.func49, Try.ntmps49
  go_wp2_with fail
  go_ret
  exact ⟨rfl, rfl⟩
theorem scaleN {a : Cx} {s : Nat} (h : nN (scaleF a s)) (w : World) : Calls Try.prog 65 #[cV a, .float .f32 s] w fun x w' => x = .returned (cV (scaleF a s)) ∧ w' = w := by
  obtain ⟨m1, d1⟩ := run_fopN (op := .mul) (x := a.1) (y := s) h.1
  obtain ⟨m2, d2⟩ := run_fopN (op := .mul) (x := a.2) (y := s) h.2
  have dz : ∀ w : World, w.drewN 0 = w := World.drewN_zero
  obtain ⟨a1, a2⟩ := a
  clear h
  unfold cV
  go_enter Try.func65, Try.ntmps65
  go_wp2_with fail
  go_ret
  exact ⟨rfl, rfl⟩
theorem crossNR {a b : Cx} (h : crossN a b) (w : World) : Calls Try.prog 63 #[cV a, cV b] w fun x w' => x = .returned (.float .f32 (crossF a b)) ∧ w' = w := by
  obtain ⟨m1, d1⟩ := run_fopN (op := .mul) (x := a.1) (y := b.2) h.1
  obtain ⟨m2, d2⟩ := run_fopN (op := .mul) (x := a.2) (y := b.1) h.2.1
  obtain ⟨m3, d3⟩ := run_fopN (op := .sub) (x := fop .mul .f32 a.1 b.2) (y := fop .mul .f32 a.2 b.1) h.2.2
  have dz : ∀ w : World, w.drewN 0 = w := World.drewN_zero
  obtain ⟨a1, a2⟩ := a
  obtain ⟨b1, b2⟩ := b
  clear h
  unfold cV
  go_enter Try.func63, Try.ntmps63
  go_wp2_with fail
  go_ret
  exact ⟨rfl, rfl⟩
theorem ifPoints {xs : List Cx} (lo hi : Nat) (ao : Option Addr) (c n : Nat) (hn : xs.length = n) (hm : n ≤ 1048576) (hok : xs.all okPt = true) (w : World) (hs : SlC w lo hi ao xs) :
    Calls Try.prog 66 #[.slice ao n c] w fun x w' => x = .returned (.tuple #[.slice ao n c, .bool true]) ∧ ∃ q, w' = w.drewN q := by
  have ha := arePoints lo hi ao c xs (by omega) w hs
  rw [hok, hn] at ha
  have HA := Lib.hid ha
  clear hs hn ha hok
  go_enter Try.func66, Try.ntmps66
  go_wp2_with fail
  refine HA.out.mono ?_
  rintro e1 w1 ⟨rfl, q, rfl⟩
  go_wp2_with fail
  go_ret2
  exact ⟨rfl, _, rfl⟩

set_option maxHeartbeats 4000000 in
set_option maxRecDepth 100000 in
theorem clip {xs : List Cx} {a b : Cx} (lo hi : Nat) (ao : Option Addr) (c n : Nat) (hn : xs.length = n) (hn1 : 1 ≤ n) (hn64 : n ≤ 1000) (hok : ClipOk xs a b) (w : World) (hs : SlC w lo hi ao xs) (htop : hi ≤ w.heap.size) :
    Calls Try.prog 40 #[.slice ao n c, cV a, cV b] w fun x w' => (∃ g cap m, x = .returned (.tuple #[.slice (some ⟨g, 0, none⟩) m cap, .bool true]) ∧ m = (clipTo xs a b n).length ∧ w.heap.size ≤ g ∧ OwnC1 w' g (clipTo xs a b n)) ∧ Below w.heap.size w w' := by
  have HN := Lib.hid hn
  have HOK := Lib.hid hok
  have HS := Lib.hid hs
  obtain ⟨bS, hao, hb1, hb2, hc⟩ := hs (by omega)
  have HCELL := Lib.hid (fun i (hi : i < n) => hc i (by omega))
  have n1 : (n : Int) ≤ 1000 := by omega
  have n2 : (1 : Int) ≤ (n : Int) := by omega
  have n0 : ¬ n = 0 := by omega
  have hbw : bS < w.heap.size := by omega
  have HMD := Lib.hid (fun W => minusN hok.d W)
  clear hs hn hc hok
  subst hao
  go_enter Try.func40, Try.ntmps40
  go_wp2_with fail
  refine (HMD.out _).mono ?_
  rintro e w ⟨rfl, rfl⟩
  obtain ⟨d, hd⟩ : ∃ d, d = minusF b a := ⟨_, rfl⟩
  have HD := Lib.hid hd
  rw [← hd]
  clear hd
  go_wp2_with fail
  go_loopw [9, 25] (fun o i wr => ∃ (k g cap : Nat), k ≤ n ∧ i = .int .i64 k ∧ o = .slice (some ⟨g, 0, none⟩) k cap ∧ w.heap.size ≤ g ∧ Hid (ORow wr 27 1 g cap k ((sideL xs a b k).map (Value.float .f32))) ∧ Hid (Below w.heap.size w wr)) (fun _ i _ => n - (intOf i).toNat)
  case atStart => exact ⟨0, w.heap.size, 0, by omega, rfl, rfl, Nat.le_refl _, Lib.hid (ORow.new _ _ _), Lib.hid (Below.alloc (Below.refl _ _) (Nat.le_refl _) _)⟩
  case round =>
    obtain ⟨k, g, cap, hk, rfl, rfl, hg, HR, HB⟩ := hrel
    by_cases hlt : k < n
    · have hcell := (HB.out.cell (p := ⟨bS, k, none⟩) (by show bS < w.heap.size; omega)).trans (HCELL.out k hlt)
      have k0 : (0 : Int) ≤ (k : Int) := by omega
      have k1 : (k : Int) < (n : Int) := by omega
      have hE := HOK.out.e k (by rw [HN.out]; exact hlt)
      rw [← HD.out] at hE
      have HM := Lib.hid (fun W => minusN hE.1 W)
      have HX := Lib.hid (fun W => crossNR hE.2 W)
      have HSF := Lib.hid (show crossF d (minusF (cAt xs k) a) = sideF a b (cAt xs k) by unfold sideF; rw [HD.out])
      clear hE
      go_wp2_with fail
      refine (HM.out _).mono ?_
      rintro e wr ⟨rfl, rfl⟩
      go_wp2_with fail
      refine (HX.out _).mono ?_
      rintro e wr ⟨rfl, rfl⟩
      rw [HSF.out]
      obtain ⟨r, hr⟩ : ∃ r, r = sideF a b (cAt xs k) := ⟨_, rfl⟩
      rw [← hr]
      have HRS := Lib.hid hr
      have hzw := HB.out.size
      clear hr
      go_wp2_with (first | (at_builtin; refine wpList_app2 rfl _ _ _ rfl 27 (.float .f32 0) 1 4 Try.underlying48 infoF32 rfl (by decide) _ #[.float .f32 r] 27 rfl (by simp [Value.oneCell']) _ g cap k _ rfl rfl rfl HR.out (by omega) (by decide) ?_; intro b6 cap6 w6 hr6 hbb6 hgr6; have HR6 := Lib.hid hr6; have HB6 := Lib.hid hbb6; have HG6 := Lib.hid hgr6; clear hr6 hbb6 hgr6))
      have hb6 := HB6.out
      have hgB := HG6.out.below (B := w.heap.size) hg hzw
      refine ⟨⟨k + 1, b6, cap6, by omega, by go_num, by go_num, by omega, Lib.hid (by rw [sideL_succ, List.map_append, ← HRS.out]; exact HR6.out), Lib.hid (HB.out.trans hgB)⟩, by simp [intOf]; omega⟩
    · have k1 : ¬ (k : Int) < (n : Int) := by omega
      have hkn : k = n := by omega
      subst hkn
      have hz : ∀ x, x ∈ sideL xs a b k → isN .f32 x = true := fun x hx => by
        obtain ⟨i, hi, rfl⟩ := List.mem_map.1 hx
        have := (HOK.out.e i (by rw [HN.out]; exact List.mem_range.1 hi)).2.2.2
        exact this
      have hall : (sideL xs a b k).all (fun x => fin (can .f32 x)) = true := List.all_eq_true.2 fun x hx => finN (hz x hx)
      have hfr := fRow.of_row HR.out (sideL_len xs a b k).symm
      have haf := areFinite (sideL xs a b k) (.slice (some ⟨g, 0, none⟩) k cap) wr (hfr.slF (sideL_len xs a b k).symm (by rw [sideL_len]; omega))
      rw [hall] at haf
      have HAF := Lib.hid haf
      have HFR := Lib.hid hfr
      have hgl := HR.out.lt
      clear hall haf hz hfr
      go_wp2_with fail
      refine HAF.out.mono ?_
      rintro e w5 ⟨rfl, q5, rfl⟩
      obtain ⟨w6, hw6⟩ : ∃ x : World, x = wr.drewN q5 := ⟨_, rfl⟩
      rw [← hw6]
      have HB6 := Lib.hid (show Below w.heap.size w w6 by rw [hw6]; exact below_dr HB.out q5)
      have HF6 := Lib.hid (show fRow w6 g (sideL xs a b k) by rw [hw6]; exact HFR.out)
      have hg6 : g < w6.heap.size := by rw [hw6]; exact hgl
      have hbS6 : bS < g := by omega
      clear hw6 HB HR HAF HFR hgl
      go_wp2_with fail
      go_loopw [12, 44] (fun o i wr => ∃ (j m g2 cap2 : Nat), j ≤ k ∧ i = .int .i64 j ∧ o = .slice (some ⟨g2, 0, none⟩) m cap2 ∧ Hid (m = (clipTo xs a b j).length) ∧ m ≤ 2 * j ∧ w6.heap.size ≤ g2 ∧ Hid (ORow wr 26 1 g2 cap2 m ((clipTo xs a b j).map cV)) ∧ Hid (Below w6.heap.size w6 wr)) (fun _ i _ => k - (intOf i).toNat)
      case atStart => exact ⟨0, 0, w6.heap.size, 0, by omega, rfl, rfl, Lib.hid rfl, by omega, Nat.le_refl _, Lib.hid (ORow.new _ _ _), Lib.hid (Below.alloc (Below.refl _ _) (Nat.le_refl _) _)⟩
      case round =>
        obtain ⟨j, m, g2, cap2, hj, rfl, rfl, HM, hm2, hg2, HR, HB⟩ := hrel
        by_cases hlt : j < k
        · obtain ⟨p, hp⟩ : ∃ p, p = pv k j := ⟨_, rfl⟩
          have hpl : p < k := by rw [hp]; exact pv_lt hlt
          have tP : ((j : Int) + (k : Int) - 1).tmod (k : Int) = (p : Int) := by
            rw [hp, Int.tmod_eq_emod_of_nonneg (by omega)]
            unfold pv
            split
            · rename_i h0; subst h0; rw [Int.emod_eq_of_lt (by omega) (by omega)]; omega
            · rw [show (j : Int) + (k : Int) - 1 = ((j : Int) - 1) + (k : Int) by omega, Int.add_emod_right, Int.emod_eq_of_lt (by omega) (by omega)]; omega
          have cq := (HB.out.cell (p := ⟨bS, j, none⟩) (by show bS < w6.heap.size; omega)).trans ((HB6.out.cell (p := ⟨bS, j, none⟩) (by show bS < w.heap.size; omega)).trans (HCELL.out j hlt))
          have cp := (HB.out.cell (p := ⟨bS, p, none⟩) (by show bS < w6.heap.size; omega)).trans ((HB6.out.cell (p := ⟨bS, p, none⟩) (by show bS < w.heap.size; omega)).trans (HCELL.out p hpl))
          have sh := (HB.out.cell (p := ⟨g, j, none⟩) hg6).trans (HF6.out j (by rw [sideL_len]; exact hlt))
          have sg := (HB.out.cell (p := ⟨g, p, none⟩) hg6).trans (HF6.out p (by rw [sideL_len]; exact hpl))
          rw [sideL_at hlt] at sh
          rw [sideL_at hpl] at sg
          have hW := HOK.out.w j (by rw [HN.out]; exact hlt)
          have hEQ : clipTo xs a b (j + 1) = clipTo xs a b j ++ clipAt (cAt xs p) (cAt xs j) (sideF a b (cAt xs p)) (sideF a b (cAt xs j)) := by rw [hp, ← HN.out]; rfl
          rw [HN.out, ← hp] at hW
          obtain ⟨P, hP⟩ : ∃ P, P = cAt xs p := ⟨_, rfl⟩
          obtain ⟨Q, hQ⟩ : ∃ Q, Q = cAt xs j := ⟨_, rfl⟩
          obtain ⟨G, hG⟩ : ∃ G, G = sideF a b (cAt xs p) := ⟨_, rfl⟩
          obtain ⟨H, hH⟩ : ∃ H, H = sideF a b (cAt xs j) := ⟨_, rfl⟩
          rw [← hG] at sg hW hEQ
          rw [← hH] at sh hW hEQ
          rw [← hP] at cp hW hEQ
          rw [← hQ] at cq hW hEQ
          have k0 : (0 : Int) ≤ (j : Int) := by omega
          have k1 : (j : Int) < (k : Int) := by omega
          have k2 : (0 : Int) ≤ (p : Int) := by omega
          have k3 : (p : Int) < (k : Int) := by omega
          have k4 : ¬ (k : Int) = 0 := by omega
          have hzw := HB.out.size
          obtain ⟨ng, hng⟩ : ∃ B, B = negB G := ⟨_, rfl⟩
          obtain ⟨nh, hnh⟩ : ∃ B, B = negB H := ⟨_, rfl⟩
          have og : (FloatKind.f32.format.order G 0 == some .lt) = ng := hng.symm
          have oh : (FloatKind.f32.format.order H 0 == some .lt) = nh := hnh.symm
          unfold clipAt at hEQ
          rw [← hng, ← hnh] at hEQ hW
          have HEQ := Lib.hid hEQ
          clear hp hEQ hP hQ hG hH hng hnh
          have dzr : ∀ q, Below w6.heap.size w6 (wr.drewN q) := fun q => below_dr HB.out q
          have HDZ := Lib.hid dzr
          clear dzr
          have HRQ : Hid (∀ q, ORow (wr.drewN q) 26 1 g2 cap2 m ((clipTo xs a b j).map cV)) := Lib.hid fun q => HR.out.far (lo := 0) (hi := wr.heap.size) ((Far.refl _ _ _).drewN q) (Nat.zero_le _) HR.out.lt
          cases ng <;> cases nh
          · clear hW
            go_wp2_with fail
            go_quiet (fail)
            unfold cV
            go_wp2_with (first | (at_builtin; refine wpList_appC rfl _ _ rfl (wr.drewN nq) _ [Q] rfl (by simp) (by simp) _ _ _ _ _ _ _ _ rfl rfl rfl rfl (HRQ.out nq) (by omega) ?_; intro b7 cap7 w7 hr7 hbb7 hgr7; have HR7 := Lib.hid hr7; have HBB7 := Lib.hid hbb7; have HG7 := Lib.hid hgr7; clear hr7 hbb7 hgr7))
            have hb7 : b7 = g2 ∨ wr.heap.size < b7 := HBB7.out
            have e7 : clipTo xs a b (j + 1) = clipTo xs a b j ++ [Q] := HEQ.out
            have e7l : (clipTo xs a b (j + 1)).length = m + 1 := by rw [e7, List.length_append, ← HM.out]; rfl
            refine ⟨⟨_, _, _, _, _, _, _, _, _, _, _, _, _, _, _, _, _, _, _, _, _, _, _, _, _, _, _, _, _, _, _, _, _, _, _, _, _, _, _, _, _, _, _, _, _, _, _, _, _, _, _, _, _, _, _, _, _, _, _, ⟨j + 1, m + 1, b7, cap7, by omega, by go_num, rfl, Lib.hid e7l.symm, by omega, by omega, Lib.hid (by rw [e7]; exact HR7.out), Lib.hid ((HDZ.out nq).trans (HG7.out.below (by omega) (by show w6.heap.size ≤ wr.heap.size; omega)))⟩, rfl⟩, meas_upI k1⟩
          · skip
            obtain ⟨h1, h2, h3, h4, h5⟩ := hW (by decide)
            have H1 := Lib.hid (fun W => minusN h1 W)
            have H4 := Lib.hid (fun W => scaleN h4 W)
            have H5 := Lib.hid (fun W => plusN h5 W)
            obtain ⟨m2, d2⟩ := run_fopN h2
            obtain ⟨m3, d3⟩ := run_fopN (op := .quo) h3
            have dz : ∀ w : World, w.drewN 0 = w := World.drewN_zero
            have HTF := Lib.hid (show fop .quo .f32 G (fop .sub .f32 G H) = tF G H from rfl)
            clear hW h1 h2 h3 h4 h5
            go_wp2_with fail
            go_quiet (fail)
            go_wp2_with fail
            refine (H1.out _).mono ?_
            rintro e w8 ⟨rfl, hw8⟩
            subst hw8
            go_wp2_with fail
            try rw [HTF.out]
            refine (H4.out _).mono ?_
            rintro e w8 ⟨rfl, hw8⟩
            subst hw8
            go_wp2_with fail
            refine (H5.out _).mono ?_
            rintro e w8 ⟨rfl, hw8⟩
            subst hw8
            unfold cV
            go_wp2_with (first | (at_builtin; refine wpList_appC rfl _ _ rfl (wr.drewN nq) _ [newF P Q G H] rfl (by simp) (by simp) _ _ _ _ _ _ _ _ rfl rfl rfl rfl (HRQ.out nq) (by omega) ?_; intro b7 cap7 w7 hr7 hbb7 hgr7; have HR7 := Lib.hid hr7; have HBB7 := Lib.hid hbb7; have HG7 := Lib.hid hgr7; clear hr7 hbb7 hgr7))
            have hb7 : b7 = g2 ∨ wr.heap.size < b7 := HBB7.out
            have e7 : clipTo xs a b (j + 1) = clipTo xs a b j ++ [newF P Q G H] := HEQ.out
            have e7l : (clipTo xs a b (j + 1)).length = m + 1 := by rw [e7, List.length_append, ← HM.out]; rfl
            refine ⟨⟨_, _, _, _, _, _, _, _, _, _, _, _, _, _, _, _, _, _, _, _, _, _, _, _, _, _, _, _, _, _, _, _, _, _, _, _, _, _, _, _, _, _, _, _, _, _, _, _, _, _, _, _, _, _, _, _, _, _, _, ⟨j + 1, m + 1, b7, cap7, by omega, by go_num, rfl, Lib.hid e7l.symm, by omega, by omega, Lib.hid (by rw [e7]; exact HR7.out), Lib.hid ((HDZ.out nq).trans (HG7.out.below (by omega) (by show w6.heap.size ≤ wr.heap.size; omega)))⟩, rfl⟩, meas_upI k1⟩
          · skip
            obtain ⟨h1, h2, h3, h4, h5⟩ := hW (by decide)
            have H1 := Lib.hid (fun W => minusN h1 W)
            have H4 := Lib.hid (fun W => scaleN h4 W)
            have H5 := Lib.hid (fun W => plusN h5 W)
            obtain ⟨m2, d2⟩ := run_fopN h2
            obtain ⟨m3, d3⟩ := run_fopN (op := .quo) h3
            have dz : ∀ w : World, w.drewN 0 = w := World.drewN_zero
            have HTF := Lib.hid (show fop .quo .f32 G (fop .sub .f32 G H) = tF G H from rfl)
            clear hW h1 h2 h3 h4 h5
            go_wp2_with fail
            go_quiet (fail)
            go_wp2_with fail
            refine (H1.out _).mono ?_
            rintro e w8 ⟨rfl, hw8⟩
            subst hw8
            go_wp2_with fail
            try rw [HTF.out]
            refine (H4.out _).mono ?_
            rintro e w8 ⟨rfl, hw8⟩
            subst hw8
            go_wp2_with fail
            refine (H5.out _).mono ?_
            rintro e w8 ⟨rfl, hw8⟩
            subst hw8
            unfold cV
            go_wp2_with (first | (at_builtin; refine wpList_appC rfl _ _ rfl (wr.drewN nq) _ [newF P Q G H] rfl (by simp) (by simp) _ _ _ _ _ _ _ _ rfl rfl rfl rfl (HRQ.out nq) (by omega) ?_; intro b7 cap7 w7 hr7 hbb7 hgr7; have HR7 := Lib.hid hr7; have HBB7 := Lib.hid hbb7; have HG7 := Lib.hid hgr7; clear hr7 hbb7 hgr7) | (at_builtin; refine wpList_appC rfl _ _ rfl w7 _ [Q] rfl (by simp) (by simp) _ _ _ _ _ _ _ _ rfl rfl rfl rfl HR7.out (by show m + 1 ≤ 1000000; omega) ?_; intro b8 cap8 w8 hr8 hbb8 hgr8; have HR8 := Lib.hid hr8; have HBB8 := Lib.hid hbb8; have HG8 := Lib.hid hgr8; clear hr8 hbb8 hgr8))
            have hb7 : b7 = g2 ∨ wr.heap.size < b7 := HBB7.out
            have hg7 := HG7.out.below (B := w6.heap.size) (by omega) (by show w6.heap.size ≤ wr.heap.size; omega)
            have hz7 := HG7.out.size
            have hzz : (wr.drewN nq).heap.size = wr.heap.size := rfl
            have hb8 := HBB8.out
            have e7 : clipTo xs a b (j + 1) = (clipTo xs a b j ++ [newF P Q G H]) ++ [Q] := by rw [HEQ.out, List.append_assoc]; rfl
            have e7l : (clipTo xs a b (j + 1)).length = m + 1 + 1 := by rw [e7, List.length_append, List.length_append, ← HM.out]; rfl
            refine ⟨⟨_, _, _, _, _, _, _, _, _, _, _, _, _, _, _, _, _, _, _, _, _, _, _, _, _, _, _, _, _, _, _, _, _, _, _, _, _, _, _, _, _, _, _, _, _, _, _, _, _, _, _, _, _, _, _, _, _, _, _, ⟨j + 1, m + 1 + 1, b8, cap8, by omega, by go_num, rfl, Lib.hid e7l.symm, by omega, by omega, Lib.hid (by rw [e7]; exact HR8.out), Lib.hid ((HDZ.out nq).trans (hg7.trans (HG8.out.below (by omega) (by omega))))⟩, rfl⟩, meas_upI k1⟩
          · clear hW
            go_wp2_with fail
            go_quiet (fail)
            go_wp2_with fail
            have e7 : clipTo xs a b (j + 1) = clipTo xs a b j := by rw [HEQ.out]; exact List.append_nil _
            exact ⟨⟨j + 1, m, g2, cap2, by omega, by go_num, rfl, Lib.hid (by rw [e7]; exact HM.out), by omega, hg2, Lib.hid (by rw [e7]; exact HRQ.out _), Lib.hid (HDZ.out _)⟩, meas_upI k1⟩
        · have k1 : ¬ (j : Int) < (k : Int) := by omega
          have hjk : j = k := by omega
          subst hjk
          have hrow := OwnC1.row HR.out HM.out
          have hzw := HB.out.size
          have hlt2 := HR.out.lt
          have hip := ifPoints w6.heap.size (g2 + 1) (some ⟨g2, 0, none⟩) cap2 m HM.out.symm (by omega) (all_ok (fun z hz => HOK.out.n z (by rw [HN.out]; exact hz))) wr (hrow.sl (by omega) (Nat.lt_succ_self _))
          have HIP := Lib.hid hip
          have HROW := Lib.hid hrow
          have HBB := Lib.hid (HB6.out.trans (HB.out.mono HB6.out.size))
          have hz6 := HB6.out.size
          clear hip hrow
          go_wp2_with fail
          refine HIP.out.mono ?_
          rintro e w9 ⟨rfl, q9, rfl⟩
          go_wp2_with fail
          go_ret2
          exact ⟨⟨g2, cap2, m, rfl, HM.out, by omega, HROW.out.far ((Far.refl 0 (g2 + 1) _).drewN q9) (Nat.zero_le _) (Nat.lt_succ_self _)⟩, below_dr HBB.out q9⟩
end Go.Proofs.Ytkpjhoiaegioeaa

/- Contracts: whether a net is valid, the reference's whole answer. -/
import Derived.Test.YtbmahankleijkaaSides
namespace Go.Fl
/-- a valid net -/
structure OkNet (ps : List Sp) (fs : List (List Int)) (A B : List Int) : Prop where
  n3 : 3 ≤ ps.length
  n256 : ps.length ≤ 256
  f1 : 1 ≤ fs.length
  f256 : fs.length ≤ 256
  spots : ps.all finSp = true
  facets : ∀ i, i < fs.length → OkF ps.length (fAt fs i)
  once : ∀ s t, s < t → t < A.length → ¬ (iAt A s = iAt A t ∧ iAt B s = iAt B t)
  used : ∀ v, v < ps.length → ∃ t, t < A.length ∧ iAt A t = v
theorem sideAt_ne {xs ys : List Int} {k s : Nat} (hs : s < k) (hk : k < xs.length) (h1 : iAt xs s = iAt xs k) (h2 : iAt ys s = iAt ys k) : sideAt xs ys (iAt xs k) (iAt ys k) ≠ k := by
  unfold sideAt idx
  have hany : (List.range xs.length).any (fun i => iAt xs i == iAt xs k && iAt ys i == iAt ys k) = true := List.any_eq_true.2 ⟨s, by simp; omega, by simp [h1, h2]⟩
  rw [if_pos hany]
  intro he
  have he2 : (List.range xs.length).findIdx (fun i => iAt xs i == iAt xs k && iAt ys i == iAt ys k) = k := by exact_mod_cast he
  have := (List.findIdx_eq (by simpa using hk)).1 he2
  have h3 := this.2 s (by simpa using hs)
  simp [h1, h2] at h3
theorem sideAt_other {xs ys : List Int} {t : Nat} (ht : t < xs.length) (hne : sideAt xs ys (iAt xs t) (iAt ys t) ≠ t) : ∃ s, s < t ∧ iAt xs s = iAt xs t ∧ iAt ys s = iAt ys t := by
  by_cases h : ∃ s, s < t ∧ iAt xs s = iAt xs t ∧ iAt ys s = iAt ys t
  · exact h
  · exact absurd (sideAt_some ht (fun s hs q => h ⟨s, hs, q⟩) rfl rfl) hne
theorem used_step (A : List Int) (t v i : Nat) (hv : iAt A t = v) : (if i = v then Value.bool true else .bool (dec (∃ s, s < t ∧ iAt A s = (i : Int)))) = .bool (dec (∃ s, s < t + 1 ∧ iAt A s = (i : Int))) := by
  by_cases h : i = v
  · subst h
    rw [if_pos rfl, dec_yes ⟨t, by omega, hv⟩]
  · rw [if_neg h]
    by_cases h2 : ∃ s, s < t ∧ iAt A s = (i : Int)
    · rw [dec_yes h2, dec_yes (by obtain ⟨s, h3, h4⟩ := h2; exact ⟨s, by omega, h4⟩)]
    · rw [dec_no h2, dec_no]
      rintro ⟨s, h3, h4⟩
      by_cases hs : s = t
      · subst hs; rw [hv] at h4; omega
      · exact h2 ⟨s, by omega, h4⟩
end Go.Fl
namespace Go.Proofs.Ytbmahankleijkaa
open Go.RowKit Go.Fl
theorem infoB : (Try.prog.info? 4).map (fun i => (i.zero, i.size, i.bytes)) = some (some (.bool false), 1, 1) := by kernel_rfl

/-- all first corners of sides are of the net -/
theorem colA_in {n : Nat} {fs : List (List Int)} (h : ∀ i, i < fs.length → OkF n (fAt fs i)) : ∀ j, j ≤ fs.length → ∀ t, t < (colTo (sideA fs) fs j).length → 0 ≤ iAt (colTo (sideA fs) fs j) t ∧ iAt (colTo (sideA fs) fs j) t < n
  | 0, _, t, ht => by simp [colTo] at ht
  | j + 1, hj, t, ht => by
    have ih := colA_in h j (by omega)
    simp only [colTo, List.length_append, List.length_map, List.length_range] at ht
    by_cases h1 : t < (colTo (sideA fs) fs j).length
    · have := ih t h1
      simp only [colTo]
      have e : iAt (colTo (sideA fs) fs j ++ (List.range (fAt fs j).length).map (sideA fs j)) t = iAt (colTo (sideA fs) fs j) t := by
        simp [iAt, List.getElem?_append_left h1]
      rw [e]; exact this
    · have h2 := (h j (by omega)).2.2 (t - (colTo (sideA fs) fs j).length) (by omega)
      have e : iAt (colTo (sideA fs) fs j ++ (List.range (fAt fs j).length).map (sideA fs j)) t = iAt (fAt fs j) (t - (colTo (sideA fs) fs j).length) := by
        have h3 : t - (colTo (sideA fs) fs j).length < (fAt fs j).length := by omega
        show (List.getD _ t 0) = _
        rw [List.getD_eq_getElem?_getD, List.getElem?_append_right (by omega)]
        simp [h3, sideA]
      simp only [colTo]
      rw [e]
      have h4 := h2.1
      simp only [inB, Bool.and_eq_true, decide_eq_true_eq] at h4
      omega

theorem l06SideN (lo hi lo' hi' m : Nat) (a1 a2 : Option Addr) (d1 d2 : Nat) (xs ys : List Int) (a b : Int) (hn : m ≤ 1099511627776) (hm : xs.length = m) (hl : ys.length = m) (w : World) (h1 : SlI w lo hi a1 xs) (h2 : SlI w lo' hi' a2 ys) :
    Calls Try.prog 98 #[.slice a1 m d1, .slice a2 m d2, .int .i64 a, .int .i64 b] w fun e w' => e = .returned (.int .i64 (sideAt xs ys a b)) ∧ w' = w := by
  subst hm
  exact l06Side lo hi lo' hi' a1 a2 d1 d2 xs ys a b hn hl w h1 h2

/-- the two columns of sides -/
abbrev colA (fs : List (List Int)) : List Int := colTo (sideA fs) fs fs.length
abbrev colB (fs : List (List Int)) : List Int := colTo (sideB fs) fs fs.length

set_option maxHeartbeats 4000000 in
theorem l06Is_early (lo hi pb : Nat) (sa fa : Option Addr) (sc fc : Nat) (ps : List Sp) (fs : List (List Int)) (hp : ps.length ≤ 1048576) (hn : fs.length ≤ 1048576) (w : World)
    (p0 : w.cell? ⟨pb, 0, none⟩ = some (.slice sa ps.length sc)) (p1 : w.cell? ⟨pb, 1, none⟩ = some (.slice fa fs.length fc)) (hs : NetAt w lo hi sa fa ps fs) (hh : hi ≤ w.heap.size)
    (hno : ¬ (3 ≤ ps.length ∧ ps.length ≤ 256 ∧ 1 ≤ fs.length ∧ fs.length ≤ 256 ∧ ps.all finSp = true)) :
    Calls Try.prog 44 #[.pointer (some ⟨pb, 0, none⟩)] w fun e w' => e = .returned (.bool false) ∧ Below w.heap.size w w' := by
  have HS := Lib.hid hs
  clear hs
  by_cases h1 : 3 ≤ ps.length
  rotate_left
  · go_enter Try.func44, Try.ntmps44
    go_wp2_with fail
    go_ret
    exact ⟨rfl, Below.refl _ _⟩
  by_cases h2 : ps.length ≤ 256
  rotate_left
  · go_enter Try.func44, Try.ntmps44
    go_wp2_with fail
    go_ret
    exact ⟨rfl, Below.refl _ _⟩
  by_cases h3 : 1 ≤ fs.length
  rotate_left
  · go_enter Try.func44, Try.ntmps44
    go_wp2_with fail
    go_ret
    exact ⟨rfl, Below.refl _ _⟩
  by_cases h4 : fs.length ≤ 256
  rotate_left
  · go_enter Try.func44, Try.ntmps44
    go_wp2_with fail
    go_ret
    exact ⟨rfl, Below.refl _ _⟩
  have h5 : ps.all finSp = false := by
    cases h : ps.all finSp
    · rfl
    · exact absurd ⟨h1, h2, h3, h4, h⟩ hno
  clear hno
  go_enter Try.func44, Try.ntmps44
  go_wp2_with (go_at_call 57; refine (l04Spots lo hi sa sc ps hp _ HS.out.spots hh).mono ?_; rintro e w3 ⟨rfl, hb3⟩; rw [h5])
  go_ret
  exact ⟨rfl, hb3⟩

set_option maxHeartbeats 4000000 in
theorem l06Is_late (lo hi pb : Nat) (sa fa : Option Addr) (sc fc : Nat) (ps : List Sp) (fs : List (List Int)) (w : World)
    (p0 : w.cell? ⟨pb, 0, none⟩ = some (.slice sa ps.length sc)) (p1 : w.cell? ⟨pb, 1, none⟩ = some (.slice fa fs.length fc)) (hs : NetAt w lo hi sa fa ps fs) (hh : hi ≤ w.heap.size)
    (hsh : ∀ i, i < fs.length → (fAt fs i).length ≤ 1048576) (h1 : 3 ≤ ps.length) (h2 : ps.length ≤ 256) (h3 : 1 ≤ fs.length) (h4 : fs.length ≤ 256) (h5 : ps.all finSp = true) :
    Calls Try.prog 44 #[.pointer (some ⟨pb, 0, none⟩)] w fun e w' => e = .returned (.bool (dec (OkNet ps fs (colA fs) (colB fs)))) ∧ Below w.heap.size w w' := by
  have HS := Lib.hid hs
  have HSH := Lib.hid hsh
  have HP0 := Lib.hid p0
  have HP1 := Lib.hid p1
  clear hs hsh
  go_enter Try.func44, Try.ntmps44
  go_wp2_with (go_at_call 57; refine (l04Spots lo hi sa sc ps (by omega) _ HS.out.spots hh).mono ?_; rintro e w3 ⟨rfl, hb3⟩; rw [h5])
  clear p0 p1
  have H5 := Lib.hid h5
  have HB3 := Lib.hid hb3
  clear h5 hb3
  go_loopw [4] (fun i wr => ∃ j : Nat, j ≤ fs.length ∧ i = .int .i64 j ∧ Hid (Below w.heap.size w wr) ∧ Hid (∀ t, t < j → OkF ps.length (fAt fs t))) (fun i _ => fs.length - (intOf i).toNat)
  case atStart => exact ⟨0, by omega, rfl, HB3, fun t ht => absurd ht (Nat.not_lt_zero _)⟩
  case round =>
    clear HB3
    obtain ⟨j, hj, rfl, HW, HG⟩ := hrel
    have q0 := keep_cell HW.out HP0.out
    have q1 := keep_cell HW.out HP1.out
    by_cases hlt : j < fs.length
    · obtain ⟨b1, o1, rfl, _, _, hc1⟩ := HS.out.facets (by omega)
      obtain ⟨ai, ci, d0, s1⟩ := hc1 j hlt
      have d1 := keep_cell HW.out d0
      have hc := HS.out.facets (by omega)
      have S1 := Lib.hid (s1.far (Far.below (hi := hi) HW.out hh))
      have hlk := HSH.out j hlt
      clear d0 hc1 s1
      have k0 : (0 : Int) ≤ (j : Int) := by omega
      have k1 : (j : Int) < (fs.length : Int) := by omega
      by_cases hok : OkF ps.length (fAt fs j)
      · have HD := Lib.hid (dec_yes hok)
        have HOK := Lib.hid hok
        clear hok hc
        go_wp2_with (go_at_call 101; refine (l06Facet lo hi b1 (o1 + j) ai ci ps.length (fAt fs j) hlk (by omega) _ d1 S1.out).mono ?_; rintro e w3 ⟨rfl, q, rfl⟩; rw [HD.out])
        go_roundw
        case rel =>
          refine ⟨j + 1, by omega, by go_num, below_dr HW.out _, fun t ht => ?_⟩
          by_cases htj : t = j
          · subst htj; exact HOK.out
          · exact HG.out t (by omega)
        case measure => simp [intOf]; omega
      · have HD := Lib.hid (dec_no hok)
        have HE := Lib.hid (dec_no (p := OkNet ps fs (colA fs) (colB fs)) fun q => hok (q.facets j hlt))
        clear hok hc
        go_wp2_with (go_at_call 101; refine (l06Facet lo hi b1 (o1 + j) ai ci ps.length (fAt fs j) hlk (by omega) _ d1 S1.out).mono ?_; rintro e w3 ⟨rfl, q, rfl⟩; rw [HD.out])
        go_ret
        exact ⟨ret_bool HE.out.symm, below_dr HW.out _⟩
    · have hjn : j = fs.length := by omega
      subst hjn
      have hmk := run_make_row' (P := Try.prog) 119 4 (.bool false) 1 Try.underlying119 infoB rfl .i64 .i64 ps.length (by omega) (by omega)
      have HM := Lib.hid (Below.alloc HW.out HW.out.size (.cells (madeCells #[.bool false] ps.length) 4))
      go_wp2_with fail
      refine (l06Sides lo hi pb sa fa ps.length sc fc fs (by omega) HSH.out _ (keep_cell HM.out HP0.out) (keep_cell HM.out HP1.out) (HS.out.facets.far (Far.below HM.out hh)) (by have := HW.out.size; simp; omega)).mono ?_
      rintro e w4 ⟨b1, c1, b2, c2, b3, c3, rfl, hR⟩
      have hsz := HW.out.size
      have hU : w4.rowIs wr.heap.size 4 ps.length (fun v => .bool (dec (∃ s, s < 0 ∧ iAt (colA fs) s = v))) := by
        refine ((World.rowIs_made wr (.bool false) ps.length 4).of_block (hR.below.block _ (by simp))).congr fun v _ => ?_
        rw [dec_no (by rintro ⟨s, h, _⟩; omega)]
      have hB : Below w.heap.size w w4 := HM.out.trans (hR.below.mono (by simp; omega))
      have hA1 : SlI w4 b1 (b1 + 1) (some ⟨b1, 0, none⟩) (colA fs) := hR.r1.ints (colTo_len _ _ _).symm
      have hB1 : SlI w4 b2 (b2 + 1) (some ⟨b2, 0, none⟩) (colB fs) := hR.r2.ints (colTo_len _ _ _).symm
      have hlow := hR.low
      simp only [World.size_alloc] at hlow
      have hub : wr.heap.size ≠ b1 ∧ wr.heap.size ≠ b2 ∧ w.heap.size ≤ wr.heap.size := by omega
      have hsum := sumTo_le HSH.out fs.length (Nat.le_refl _)
      have HU := Lib.hid hU
      have HB := Lib.hid hB
      have HA1 := Lib.hid hA1
      have HB1 := Lib.hid hB1
      have hlA : (colA fs).length = sumTo fs fs.length := colTo_len _ _ _
      have hlB : (colB fs).length = sumTo fs fs.length := colTo_len _ _ _
      have HLA := Lib.hid hlA
      have HLB := Lib.hid hlB
      have HIN : Hid (∀ t, t < (colA fs).length → 0 ≤ iAt (colA fs) t ∧ iAt (colA fs) t < ps.length) := Lib.hid (colA_in HG.out fs.length (Nat.le_refl _))
      have HFA := HG
      clear hU hB hA1 hB1 hR hmk HM q0 q1 hlA hlB HG HP0 HP1
      generalize wr.heap.size = ub at *
      generalize hA0 : colA fs = A at *
      generalize hB0 : colB fs = B at *
      generalize sumTo fs fs.length = m at *
      have HA0 := Lib.hid hA0
      have HB0 := Lib.hid hB0
      clear hA0 hB0
      clear HW wr
      go_wp2_with fail
      go_loopw [9] (fun i wr => ∃ t : Nat, t ≤ m ∧ i = .int .i64 t ∧ Hid (Below w.heap.size w wr) ∧ Hid (SlI wr b1 (b1 + 1) (some ⟨b1, 0, none⟩) A) ∧ Hid (SlI wr b2 (b2 + 1) (some ⟨b2, 0, none⟩) B) ∧
        Hid (wr.rowIs ub 4 ps.length (fun v => .bool (dec (∃ s, s < t ∧ iAt A s = v)))) ∧ Hid (∀ s r, s < r → r < t → ¬ (iAt A s = iAt A r ∧ iAt B s = iAt B r))) (fun i _ => m - (intOf i).toNat)
      case atStart => exact ⟨0, by omega, rfl, HB, HA1, HB1, HU, fun s r _ h => absurd h (Nat.not_lt_zero _)⟩
      case round =>
        clear HB HA1 HB1 HU
        obtain ⟨t, ht, rfl, HW, HA, HB, HU, HO⟩ := hrel
        by_cases hlt : t < m
        · have hin := HIN.out t (by have := HLA.out; omega)
          obtain ⟨v, hv⟩ := Int.eq_ofNat_of_zero_le hin.1
          have hvn : v < ps.length := by omega
          obtain ⟨_, _, he1, _, _, hcA⟩ := HA.out (by have := HLA.out; omega)
          obtain ⟨_, _, he2, _, _, hcB⟩ := HB.out (by have := HLB.out; omega)
          cases he1
          cases he2
          have a1 := hcA t (by have := HLA.out; omega)
          have a2 := hcB t (by have := HLB.out; omega)
          rw [hv] at a1
          rw [Nat.zero_add] at a1 a2
          have u1 := HU.out.cell hvn
          have u2 := HU.out.frozen v
          have k0 : (0 : Int) ≤ (t : Int) := by omega
          have k1 : (t : Int) < (m : Int) := by omega
          have k2 : (0 : Int) ≤ (v : Int) := by omega
          have k3 : (v : Int) < (ps.length : Int) := by omega
          have SA := Lib.hid (HA.out.far ((Far.refl _ _ wr).set ⟨ub, v, none⟩ (.bool true) (by simp; omega)))
          have SB := Lib.hid (HB.out.far ((Far.refl _ _ wr).set ⟨ub, v, none⟩ (.bool true) (by simp; omega)))
          have HV := Lib.hid hv
          clear hcA hcB hin hv
          have hw' := HLA.out
          have hl' := HLB.out
          by_cases hd : sideAt A B v (iAt B t) = t
          · have HD := Lib.hid hd
            clear hd
            go_wp2_with fail
            go_region_held3 (fun w' => w'.cell? ⟨b1, t, none⟩ = some (.int .i64 v) ∧ w'.cell? ⟨b2, t, none⟩ = some (.int .i64 (iAt B t))) (first | go_keep | (refine ⟨?_, ?_⟩ <;> exact keep_cell (by assumption) (by assumption)))
              ((go_at_call 98; refine (l06SideN b1 (b1 + 1) b2 (b2 + 1) m (some ⟨b1, 0, none⟩) (some ⟨b2, 0, none⟩) c1 c2 A B v (iAt B t) (by omega) hw' hl' (wr.setCell ⟨ub, v, none⟩ (.bool true)).drew SA.out SB.out).mono ?_; rintro e w3 ⟨rfl, rfl⟩; rw [HD.out]))
            have HO2 : Hid (∀ s r, s < r → r < t + 1 → ¬ (iAt A s = iAt A r ∧ iAt B s = iAt B r)) := Lib.hid fun s r h1 h2 h3 => by
              by_cases hr : r = t
              · subst hr
                refine sideAt_ne (xs := A) (ys := B) h1 (by omega) h3.1 h3.2 ?_
                rw [HV.out]; exact HD.out
              · exact HO.out s r h1 (by omega) h3
            have HU2 := Lib.hid ((HU.out.set v (.bool true)).congr fun i _ => used_step A t v i HV.out)
            go_wp2_with fail
            go_roundw
            case rel => exact ⟨t + 1, by omega, by go_num, (HW.out.setCell (by simp; omega) _).drew, SA, SB, HU2, HO2⟩
            case measure => simp [intOf]; omega
          · have HD := Lib.hid hd
            clear hd
            go_wp2_with fail
            go_region_held3 (fun w' => w'.cell? ⟨b1, t, none⟩ = some (.int .i64 v) ∧ w'.cell? ⟨b2, t, none⟩ = some (.int .i64 (iAt B t))) (first | go_keep | (refine ⟨?_, ?_⟩ <;> exact keep_cell (by assumption) (by assumption)))
              ((go_at_call 98; refine (l06SideN b1 (b1 + 1) b2 (b2 + 1) m (some ⟨b1, 0, none⟩) (some ⟨b2, 0, none⟩) c1 c2 A B v (iAt B t) (by omega) hw' hl' (wr.setCell ⟨ub, v, none⟩ (.bool true)).drew SA.out SB.out).mono ?_; rintro e w3 ⟨rfl, rfl⟩))
            have hd := HD.out
            have HE := Lib.hid (dec_no (p := OkNet ps fs (colA fs) (colB fs)) fun q => by
              rw [HA0.out, HB0.out] at q
              obtain ⟨s, h1, h2, h3⟩ := sideAt_other (xs := A) (ys := B) (t := t) (by omega) (by rw [HV.out]; exact hd)
              exact q.once s t h1 (by omega) ⟨h2, h3⟩)
            go_wp2_with fail
            go_ret
            exact ⟨ret_bool HE.out.symm, (HW.out.setCell (by simp; omega) _).drew⟩
        · have htm : t = m := by omega
          subst htm
          go_wp2_with fail
          go_loopw [10] (fun i wq => ∃ v : Nat, v ≤ ps.length ∧ i = .int .i64 v ∧ Hid (Below w.heap.size w wq) ∧ Hid (wq.rowIs ub 4 ps.length (fun v => .bool (dec (∃ s, s < t ∧ iAt A s = v)))) ∧ Hid (∀ u, u < v → ∃ s, s < t ∧ iAt A s = u)) (fun i _ => ps.length - (intOf i).toNat)
          case atStart => exact ⟨0, by omega, rfl, HW, HU, fun v hv => absurd hv (Nat.not_lt_zero _)⟩
          case round =>
            clear HW HU
            obtain ⟨v, hv, rfl, HW, HU, HS2⟩ := hrel
            by_cases hlt2 : v < ps.length
            · have u1 := HU.out.cell hlt2
              have k0 : (0 : Int) ≤ (v : Int) := by omega
              have k1 : (v : Int) < (ps.length : Int) := by omega
              by_cases he : ∃ s, s < t ∧ iAt A s = v
              · rw [dec_yes he] at u1
                have HE := Lib.hid he
                clear he
                go_wp2_with fail
                go_roundw
                case rel =>
                  refine ⟨v + 1, by omega, by go_num, HW, HU, fun u hu => ?_⟩
                  by_cases huv : u = v
                  · subst huv; exact HE.out
                  · exact HS2.out u (by omega)
                case measure => simp [intOf]; omega
              · rw [dec_no he] at u1
                have HE := Lib.hid (dec_no (p := OkNet ps fs (colA fs) (colB fs)) fun q => by
                  rw [HA0.out, HB0.out] at q
                  exact he (by
                  obtain ⟨s, h1, h2⟩ := q.used v hlt2
                  exact ⟨s, by have := HLA.out; omega, h2⟩))
                clear he
                go_wp2_with fail
                go_ret
                exact ⟨ret_bool HE.out.symm, HW.out⟩
            · have hvn : v = ps.length := by omega
              subst hvn
              have HE := Lib.hid (dec_yes (p := OkNet ps fs (colA fs) (colB fs)) <| by
              rw [HA0.out, HB0.out]
              exact ⟨h1, h2, h3, h4, H5.out, HFA.out, fun s r h1 h2 => HO.out s r h1 (by have := HLA.out; omega), fun u hu => by
                obtain ⟨s, h1, h2⟩ := HS2.out u hu
                exact ⟨s, by have := HLA.out; omega, h2⟩⟩)
              go_wp2_with fail
              go_ret
              exact ⟨ret_bool HE.out.symm, HW.out⟩

/-- the reference's answer to whether a net is valid -/
theorem l06Is (lo hi pb : Nat) (sa fa : Option Addr) (sc fc : Nat) (ps : List Sp) (fs : List (List Int)) (hp : ps.length ≤ 1048576) (hn : fs.length ≤ 1048576) (hsh : ∀ i, i < fs.length → (fAt fs i).length ≤ 1048576) (w : World)
    (p0 : w.cell? ⟨pb, 0, none⟩ = some (.slice sa ps.length sc)) (p1 : w.cell? ⟨pb, 1, none⟩ = some (.slice fa fs.length fc)) (hs : NetAt w lo hi sa fa ps fs) (hh : hi ≤ w.heap.size) :
    Calls Try.prog 44 #[.pointer (some ⟨pb, 0, none⟩)] w fun e w' => e = .returned (.bool (dec (OkNet ps fs (colA fs) (colB fs)))) ∧ Below w.heap.size w w' := by
  by_cases h : 3 ≤ ps.length ∧ ps.length ≤ 256 ∧ 1 ≤ fs.length ∧ fs.length ≤ 256 ∧ ps.all finSp = true
  · obtain ⟨h1, h2, h3, h4, h5⟩ := h
    exact l06Is_late lo hi pb sa fa sc fc ps fs w p0 p1 hs hh hsh h1 h2 h3 h4 h5
  · rw [dec_no (p := OkNet ps fs (colA fs) (colB fs)) fun q => h ⟨q.n3, q.n256, q.f1, q.f256, q.spots⟩]
    exact l06Is_early lo hi pb sa fa sc fc ps fs hp hn w p0 p1 hs hh h
end Go.Proofs.Ytbmahankleijkaa

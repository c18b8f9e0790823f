/- impl.ReadSheet. -/
import Derived.Test.YtlpgaekkhlinhaaGreatDoorRhM
import Derived.Test.YtlpgaekkhlinhaaGreatDoorRhI
import Derived.Test.YtlpgaekkhlinhaaGreatDoorCut2
namespace Go.Proofs.YtlpgaekkhlinhaaGreatDoor
open Go.RowKit Go.Fl
attribute [local go_sem] Oper.semAt_some
theorem infoSpR : (Tryz.prog.info? 63).map (fun i => (i.zero, i.size, i.bytes)) = some (some (.agg #[.float .f32 0, .float .f32 0, .float .f32 0]), 3, 12) := by kernel_rfl

set_option maxHeartbeats 4000000 in
set_option maxRecDepth 100000 in
theorem implReadSheet (s : ByteArray) (hs : s.size ≤ 1048576) (w : World) (hm : Mx w) (he : Er w) (hg : Eg w) (ht : Tz w) (htb : Tab w) : Calls Tryz.prog 12 #[.string s] w (RetS s.data.toList w) := by
  have hb0 : Below w.heap.size w (w.alloc (.cells #[.int .i64 0, .int .i64 0, .slice none 0 0] 33)) := Below.alloc (Below.refl _ w) (Nat.le_refl _) _
  have HB0 := Lib.hid hb0
  have HMX := Lib.hid hm
  have HE := Lib.hid he
  have HG := Lib.hid hg
  have HT := Lib.hid ht
  have HTB := Lib.hid htb
  obtain ⟨mx, hmx⟩ := hm.on hb0
  clear hb0 hm he hg ht htb
  -- the two texts
  obtain ⟨P, Q, cut, hcut, hP, hQ, hyes, hno⟩ : ∃ (P Q : ByteArray) (cut : Bool), Lib.cut s.data.toList [59] = (P.data.toList, Q.data.toList, cut) ∧ P.size ≤ 1048576 ∧ Q.size ≤ 1048576 ∧ (cut = true → ∀ xs, Reads hex1 Own1 Q.data.toList xs → cutL 59 s.data.toList = [P.data.toList, Q.data.toList]) ∧ (∀ a l ps, RdSheet s.data.toList a l ps → cut = true ∧ cutL 59 s.data.toList = [P.data.toList, Q.data.toList]) := by
    by_cases hc : (59 : UInt8) ∈ s.data.toList
    · obtain ⟨p, q, h1, h2⟩ := split_at hc
      have hl := congrArg List.length h1
      rw [size_list, List.length_append, List.length_cons] at hl
      refine ⟨⟨p.toArray⟩, ⟨q.toArray⟩, true, by rw [h1, cut_hit h2], by show p.length ≤ _; omega, by show q.length ≤ _; omega, fun _ xs hx => ?_, fun a l ps hr => ?_⟩
      · rw [h1, cutL_hit2 h2, cutL_none (semi_free semi1 hx)]
      · obtain ⟨p', q', xs, m, r1, _⟩ := hr
        have r0 := r1
        rw [h1, cutL_hit2 h2] at r1
        simp only [List.cons.injEq] at r1
        obtain ⟨e1, r4⟩ := r1
        have hq : q = q'.data.toList := by
          have := join_cutL 59 q
          rw [r4, Lib.join_one] at this
          exact this.symm
        refine ⟨rfl, ?_⟩
        rw [r0]
        show _ = [p, q]
        rw [← e1, hq]
    · refine ⟨s, ⟨#[]⟩, false, by rw [cut_free hc], hs, by decide, fun h => absurd h (by decide), fun a l ps hr => ?_⟩
      obtain ⟨p', q', xs, m, r1, _⟩ := hr
      rw [cutL_none hc] at r1
      simp at r1
  have HY := Lib.hid hyes
  have HN := Lib.hid hno
  have HC : Hid (∀ w0 : World, w0.cell? ⟨0, 0, none⟩ = some (.int .i64 mx) → Calls Tryz.prog 22 #[.string s, .string ⟨#[59]⟩] w0 fun e w' => e = .returned (.tuple #[.string P, .string Q, .bool cut]) ∧ ∃ n, w' = w0.drewN n) := Lib.hid fun w0 h0 => by
    have := Tryz.strings_Cut s ⟨#[59]⟩ mx w0 (by omega) h0
    rw [show (⟨#[59]⟩ : ByteArray).data.toList = [59] from rfl, hcut] at this
    exact this
  clear hyes hno hcut
  refine (callsIn_wide (n := 3)).1 (callsIn_of_wp_marks Tryz.func12 rfl trivial (wpIn_wide.2 (wp_mono ?_ bodyQ_to)) rfl)
  simp only [Tryz.ntmps12, List.size_toArray, List.length_cons, List.length_nil, Nat.reduceAdd, Nat.reduceSub, Array.replicate_succ, Array.replicate_zero, List.push_toArray, List.append_toArray, List.nil_append, List.cons_append]
  go_wp2_with fail
  refine (HC.out _ hmx).mono ?_
  rintro e w1 ⟨rfl, n1, hw1⟩
  have HB1 : Hid (Below w.heap.size w w1) := Lib.hid (by rw [hw1]; exact below_dr HB0.out n1)
  have HA1 : Hid (OwnC w1 w.heap.size #[.int .i64 0, .int .i64 0, .slice none 0 0] 33) := Lib.hid (by rw [hw1]; exact (OwnC.new rfl).drewN n1)
  have hbw : w.heap.size < w1.heap.size := by rw [hw1]; show w.heap.size < (World.alloc _ _).heap.size; simp
  clear hw1 hmx
  go_wp2_with fail
  refine (implReadList P hP w1 (HMX.out.on HB1.out) (HE.out.on HB1.out) (HG.out.on HB1.out) (HTB.out.on HB1.out)).mono ?_
  rintro e w2 hri
  obtain ⟨v1, B1, rfl, ho1, hp1, hn1, hb2⟩ := hri.split
  have zz2 := hb2.size
  have HB2 := Lib.hid (HB1.out.trans (hb2.mono (by omega)))
  have HA2 := Lib.hid (HA1.out.below hb2 hbw)
  clear hb2 hri
  go_wp2_with fail
  refine (readNumbers Q hQ w2 (HMX.out.on HB2.out) (HE.out.on HB2.out) (HT.out.on HB2.out)).mono ?_
  rintro e w3 ⟨hy3, hn3, hb3⟩
  have zz3 := hb3.size
  have HB3 := Lib.hid (HB2.out.trans (hb3.mono (by omega)))
  have HA3 := HA2.out.below hb3 (by omega)
  obtain ⟨v2, B2, rfl, ho2, hp2, hm2⟩ := splitN hy3 hn3
  have HBL3 := Lib.hid hb3
  clear hb3 hy3 hn3
  by_cases hall : cut = true ∧ B1 = true ∧ B2 = true
  rotate_left
  · have HNN : Hid (∀ a l ps, ¬ RdSheet s.data.toList a l ps) := Lib.hid fun a l ps h => by
      obtain ⟨k0, k00⟩ := HN.out a l ps h
      obtain ⟨xs, m, k1, k2, _⟩ := h.parts k00
      rcases B1 with _ | _
      · exact hn1 rfl a l k1
      · rcases B2 with _ | _
        · exact hm2 rfl xs k2
        · exact hall ⟨k0, rfl, rfl⟩
    obtain ⟨⟨d0, d1, d2⟩, f0, f1, f2⟩ := HA3.tri
    clear hn1 hp2 hm2 HA3 hp1
    cases cut
    · clear hall
      go_wp2_with fail
      refine ret_early (v := .tuple #[.agg #[.int .i64 0, .int .i64 0, .slice none 0 0], .bool false]) (by simp [results, Tryz.results12, go_sem, d0, d1, d2]) ⟨fun a l ps h => absurd h (HNN.out a l ps), fun _ => rfl, ?_⟩
      exact ((HB3.out.setCell (Nat.le_refl _) _).setCell (Nat.le_refl _) _).setCell (Nat.le_refl _) _
    · cases B1
      · clear hall
        go_wp2_with fail
        refine ret_early (v := .tuple #[.agg #[.int .i64 0, .int .i64 0, .slice none 0 0], .bool false]) (by simp [results, Tryz.results12, go_sem, d0, d1, d2]) ⟨fun a l ps h => absurd h (HNN.out a l ps), fun _ => rfl, ?_⟩
        exact ((HB3.out.setCell (Nat.le_refl _) _).setCell (Nat.le_refl _) _).setCell (Nat.le_refl _) _
      · cases B2
        rotate_left
        · exact absurd ⟨rfl, rfl, rfl⟩ hall
        clear hall
        go_wp2_with fail
        refine ret_early (v := .tuple #[.agg #[.int .i64 0, .int .i64 0, .slice none 0 0], .bool false]) (by simp [results, Tryz.results12, go_sem, d0, d1, d2]) ⟨fun a l ps h => absurd h (HNN.out a l ps), fun _ => rfl, ?_⟩
        exact ((HB3.out.setCell (Nat.le_refl _) _).setCell (Nat.le_refl _) _).setCell (Nat.le_refl _) _
  obtain ⟨rfl, rfl, rfl⟩ := hall
  obtain ⟨ns, b1, c1, hns, hl64, rfl, hrow1, hbb1⟩ := hp1 rfl
  obtain ⟨xs, b2, c2, hxs, rfl, hrow2, hbb2⟩ := hp2 rfl
  have HCUT := Lib.hid (HY.out rfl xs hxs)
  have HNS := Lib.hid hns
  have HXS := Lib.hid hxs
  have hlx : xs.length ≤ 256 := hxs.1
  have l1 := hrow1.lt
  have l2 := hrow2.lt
  have hcap := hrow2.cap
  have HR1 := Lib.hid (hrow1.below HBL3.out l1)
  have HR2 := Lib.hid hrow2
  clear hp1 hn1 hp2 hm2 hns hxs hrow1 hrow2 ho1 ho2
  obtain ⟨nl, hnl⟩ : ∃ n, n = ns.length := ⟨_, rfl⟩
  rw [← hnl] at hl64 HR1 ⊢
  obtain ⟨xl, hxl⟩ : ∃ n, n = xs.length := ⟨_, rfl⟩
  rw [← hxl] at hlx HR2 hcap ⊢
  have HNL := Lib.hid hnl
  have HXL := Lib.hid hxl
  clear hnl hxl
  have htm : (xl : Int) % 3 = ((xl % 3 : Nat) : Int) := rfl
  have HTM := Lib.hid htm
  clear htm
  by_cases hgood : nl = 2 ∧ xl % 3 = 0
  rotate_left
  · have HNN : Hid (∀ a l ps, ¬ RdSheet s.data.toList a l ps) := Lib.hid fun a l ps h => by
      obtain ⟨us, m, k1, k2, k3, _⟩ := h.parts HCUT.out
      have e1 := HNS.out.unique k1
      have e2 := HXS.out.unique texts1 k2
      refine hgood ⟨by rw [HNL.out, e1]; rfl, by rw [HXL.out, e2, k3]; omega⟩
    obtain ⟨⟨d0, d1, d2⟩, f0, f1, f2⟩ := HA3.tri
    clear HA3
    by_cases hg1 : nl = 2
    · have g1 : ((nl : Int) != 2) = false := by rw [hg1]; rfl
      have g3 : ((xl : Int) % 3 != 0) = true := by
        have : ¬ xl % 3 = 0 := fun h => hgood ⟨hg1, h⟩
        rw [HTM.out, bne_iff_ne]; omega
      clear hgood hg1
      go_wp2_with fail
      refine ret_early (v := .tuple #[.agg #[.int .i64 0, .int .i64 0, .slice none 0 0], .bool false]) (by simp [results, Tryz.results12, go_sem, d0, d1, d2]) ⟨fun a l ps h => absurd h (HNN.out a l ps), fun _ => rfl, ?_⟩
      exact ((HB3.out.setCell (Nat.le_refl _) _).setCell (Nat.le_refl _) _).setCell (Nat.le_refl _) _
    · have g1 : ((nl : Int) != 2) = true := by simp; omega
      clear hgood hg1
      go_wp2_with fail
      refine ret_early (v := .tuple #[.agg #[.int .i64 0, .int .i64 0, .slice none 0 0], .bool false]) (by simp [results, Tryz.results12, go_sem, d0, d1, d2]) ⟨fun a l ps h => absurd h (HNN.out a l ps), fun _ => rfl, ?_⟩
      exact ((HB3.out.setCell (Nat.le_refl _) _).setCell (Nat.le_refl _) _).setCell (Nat.le_refl _) _
  obtain ⟨hg1, hg2⟩ := hgood
  have g1 : ((nl : Int) != 2) = false := by rw [hg1]; rfl
  have g3 : ((xl : Int) % 3 != 0) = false := by rw [HTM.out, hg2]; rfl
  obtain ⟨a, l, hal⟩ := int_pair (show ns.length = 2 by rw [← HNL.out]; exact hg1)
  obtain ⟨m, hm⟩ : ∃ m, xl = 3 * m := ⟨xl / 3, by omega⟩
  have HAL := Lib.hid hal
  have HM := Lib.hid hm
  have c10 : w3.cell? ⟨b1, 0, none⟩ = some (.int .i64 a) := by rw [HR1.out.cell 0 (by omega), hal]; rfl
  have c11 : w3.cell? ⟨b1, 1, none⟩ = some (.int .i64 l) := by rw [HR1.out.cell 1 (by omega), hal]; rfl
  have hb0' : Below w3.heap.size w3 (w3.alloc (.cells #[.int .i64 0, .int .i64 0, .slice none 0 0] 33)) := Below.alloc (Below.refl _ _) (Nat.le_refl _) _
  have c20 := keep_cell hb0' c10
  have c21 := keep_cell hb0' c11
  clear hb0'
  have hn2 : (nl : Int) = 2 := by omega
  have HA3 := Lib.hid HA3
  clear hg1 hg2 hal hm
  go_wp2_with fail
  go_cut [11] from 51 to 57 (fun u9 wx => u9 = .pointer (some ⟨w3.heap.size, 0, none⟩) ∧ Hid (wx = (w3.alloc (.cells #[.int .i64 a, .int .i64 l, .slice none 0 0] 33)).drew))
  case first =>
    go_region_law (fail)
    all_goals (try go_wp2_with fail)
    all_goals go_meet
    all_goals (refine ⟨rfl, Lib.hid ?_⟩)
    all_goals rfl
  case rest =>
    obtain ⟨rfl, HWC⟩ := hcut
    have hwc := HWC.out
    have zc : wc.heap.size = w3.heap.size + 1 := by rw [hwc]; simp
    have hbc : Below w3.heap.size w3 wc := by rw [hwc]; exact Below.drew (Below.alloc (Below.refl _ _) (Nat.le_refl _) _)
    have HBC : Hid (Below w.heap.size w wc) := Lib.hid (HB3.out.trans (hbc.mono (by omega)))
    have HAC := Lib.hid (HA3.out.below hbc (by omega))
    have HRC := Lib.hid (HR2.out.below hbc l2)
    have HOC : Hid (OwnC wc w3.heap.size #[.int .i64 a, .int .i64 l, .slice none 0 0] 33) := Lib.hid (by
      rw [hwc]; exact (show OwnC (w3.alloc (.cells #[.int .i64 a, .int .i64 l, .slice none 0 0] 33)) w3.heap.size _ _ from OwnC.new rfl))
    have HLX : Hid (xs.length = xl) := Lib.hid HXL.out.symm
    clear hwc hbc HWC HA3 HR2 HR1 c10 c11 c20 c21 g1 g3 HTM hn2
    have HZC := Lib.hid zc
    clear zc
    go_wp2_with (go_at_call 34; refine (chunkF b2 xl c2 _).mono ?_; rintro e w6 ⟨rfl, rfl⟩)
    have zc := HZC.out
    obtain ⟨W0, hW0⟩ : ∃ W0, W0 = (wc.alloc (.cells #[.slice (some ⟨b2, 0, none⟩) xl c2] 23)).alloc (.cells #[.int .i64 3] 3) := ⟨_, rfl⟩
    rw [← hW0]
    have hz0 : W0.heap.size = wc.heap.size + 2 := by rw [hW0]; simp
    have hA0 : Below wc.heap.size wc W0 := by rw [hW0]; exact (Below.alloc (Below.refl _ _) (Nat.le_refl _) _).alloc (by simp) _
    have hBs : W0.cell? ⟨wc.heap.size, 0, none⟩ = some (.slice (some ⟨b2, 0, none⟩) xl c2) := by
      rw [hW0]
      exact keep_cell (Below.alloc (Below.refl _ _) (Nat.le_refl _) _) (news_new wc #[_] _ 0 _ rfl)
    have hBn : W0.cell? ⟨wc.heap.size + 1, 0, none⟩ = some (.int .i64 3) := by
      rw [hW0]
      have := news_new (wc.alloc (.cells #[.slice (some ⟨b2, 0, none⟩) xl c2] 23)) #[.int .i64 3] 3 0 _ rfl
      rw [World.size_alloc] at this
      exact this
    have hP0 : PushI (fun c => c = w3.heap.size) W0 W0 w3.heap.size 33 #[.int .i64 a, .int .i64 l, .slice none 0 0] 63 3 (.slice none 0 0) 0 (spCs (spotsAt xs [])) := by
      refine ⟨World.ownsRow_nil _ _ _ _, HOC.out.below hA0 (by omega), fun b e => ?_, Ch.refl _ _⟩
      simp [Value.ownBlock] at e
    have HA0 := Lib.hid (HAC.out.below hA0 (by omega))
    have HB0' := Lib.hid (HBC.out.trans (hA0.mono HBC.out.size))
    have HR0 := Lib.hid (HRC.out.below hA0 (by omega))
    have hxm := HM.out
    have p1 : b2 < W0.heap.size := by omega
    have p2 : b2 ≠ w3.heap.size := by omega
    have p3 : wc.heap.size < W0.heap.size := by omega
    have p4 : wc.heap.size ≠ w3.heap.size := by omega
    have p5 : wc.heap.size + 1 < W0.heap.size := by omega
    have p6 : wc.heap.size + 1 ≠ w3.heap.size := by omega
    have p7 : w3.heap.size < W0.heap.size := by omega
    have p8 : w.heap.size < W0.heap.size := by omega
    have p9 : xl ≤ 1048576 := by omega
    clear hW0 hA0 HBC HAC HRC HOC hz0
    refine (wpIn_wide (n := 3)).1 ?_
    refine' wpIn_rangeFunc_ownG (F := Fence.wide) (n := 3) rfl (by decide) (gf := 58) (lb := #[.pointer (some ⟨wc.heap.size, 0, none⟩), .pointer (some ⟨wc.heap.size + 1, 0, none⟩)]) rfl trivial (enters_of Tryz.func58 (by kernel_rfl) rfl)
      (chunk_stops 2 (by decide) wc.heap.size (wc.heap.size + 1) W0.heap.size w3.heap.size b2 xl c2 m hxm p9 hcap p1 p2 p3 p4 p5 p6 W0 (Nat.le_refl _) hBs hBn) (fun h k => KpV.trans h k) (KpV.put (Nat.le_refl _)) (Below.refl _ _) (fun _ => rfl)
      (fun pre W => ∃ v, PushI (fun c => c = w3.heap.size) W0 W w3.heap.size 33 #[.int .i64 a, .int .i64 l, v] 63 3 v pre.length (spCs (spotsAt xs (pre.map Subtype.val))))
      (fun _ _ _ => False)
      (fun pre A C row hs hg hr => by
        obtain ⟨v, h⟩ := hs
        exact ⟨v, h.turned hg hr⟩)
      (fun _ _ _ _ _ hs _ _ => hs)
      ⟨_, hP0⟩
      _ ?assign ?body ?done ?stop
    case assign =>
      intro l x W K hK
      gi_wp2
      exact hK
    case body =>
      rintro l' pre ⟨k, hk⟩ W ⟨v, hP⟩ hpl
      obtain ⟨d, hd⟩ : ∃ d, d = 3 * k := ⟨_, rfl⟩
      have key : ∀ j, j < xl → W.cell? ⟨b2, j, none⟩ = some (.float .f32 (xs.getD j 0)) := fun j hj => by
        refine hP.ch.cell ?_ (by omega)
        have hj' : j < xs.length := by rw [HLX.out]; exact hj
        rw [HR0.out.cell j (by omega)]
        simp [hj']
      have e1 := key d (by omega)
      have e2 := key (d + 1) (by omega)
      have e3 := key (d + 2) (by omega)
      have HSU : Hid (spCs (spotsAt xs ((pre ++ [(⟨k, hk⟩ : {x : Nat // x < m})]).map Subtype.val)) = spCs (spotsAt xs (pre.map Subtype.val)) ++ [.float .f32 (xs.getD d 0), .float .f32 (xs.getD (d + 1) 0), .float .f32 (xs.getD (d + 2) 0)]) := Lib.hid (by
        rw [List.map_append, List.map_cons, List.map_nil, spotsAt_snoc, spCs_app, spCs_one, hd])
      generalize xs.getD d 0 = x at *
      generalize xs.getD (d + 1) 0 = y at *
      generalize xs.getD (d + 2) 0 = z at *
      have c2 := hP.own.cell 2
      have f2 := hP.own.free 2
      simp at c2
      have HPL := Lib.hid hP
      have hk9 : pre.length ≤ 256 := by omega
      have hk8 : d + 2 < xl := by omega
      show Code.wpIn _ _ _ _ _ { tmps := _, defers := _ } _
      rw [← hd]
      clear key hP hd
      gi_wp2
      refine wpIn_region_round (S := fun w' => w'.cell? ⟨b2, d, none⟩ = some (.float .f32 x) ∧ w'.cell? ⟨b2, d + 1, none⟩ = some (.float .f32 y) ∧ w'.cell? ⟨b2, d + 2, none⟩ = some (.float .f32 z)) (by kernel_rfl) (by kernel_rfl) ?_ ?_
      · rintro ⟨a9, w9, h9⟩
        exact h9
      have hS0 : (fun w' : World => w'.cell? ⟨b2, d, none⟩ = some (.float .f32 x) ∧ w'.cell? ⟨b2, d + 1, none⟩ = some (.float .f32 y) ∧ w'.cell? ⟨b2, d + 2, none⟩ = some (.float .f32 z)) W.drew := ⟨e1, e2, e3⟩
      refine wpAnyH_take (i := 0) (v := ?v0) rfl (by kernel_rfl) (by kernel_rfl) (by kernel_rfl) (fun _ _ _ h => h) (Or.inl ⟨by rfl, ?y0⟩) hS0 ?r0
      case y0 => (intro w hSw; obtain ⟨hSx, hSy, hSz⟩ := hSw; go_simp <;> with_reducible rfl)
      try simp only [Act.put, List.setIfInBounds_toArray, List.set_cons_zero, List.set_cons_succ]
      refine wpAnyH_take (i := 2) (v := ?v2) rfl (by kernel_rfl) (by kernel_rfl) (by kernel_rfl) (fun _ _ _ h => h) (Or.inl ⟨by rfl, ?y2⟩) hS0 ?r2
      case y2 => (intro w hSw; obtain ⟨hSx, hSy, hSz⟩ := hSw; go_simp <;> with_reducible rfl)
      try simp only [Act.put, List.setIfInBounds_toArray, List.set_cons_zero, List.set_cons_succ]
      refine wpAnyH_take (i := 3) (v := ?v3) rfl (by kernel_rfl) (by kernel_rfl) (by kernel_rfl) (fun _ _ _ h => h) (Or.inl ⟨by rfl, ?y3⟩) hS0 ?r3
      case y3 => (intro w hSw; obtain ⟨hSx, hSy, hSz⟩ := hSw; go_simp <;> with_reducible rfl)
      try simp only [Act.put, List.setIfInBounds_toArray, List.set_cons_zero, List.set_cons_succ]
      refine wpAnyH_take (i := 4) (v := ?v4) rfl (by kernel_rfl) (by kernel_rfl) (by kernel_rfl) (fun _ _ _ h => h) (Or.inl ⟨by rfl, ?y4⟩) hS0 ?r4
      case y4 => (intro w hSw; obtain ⟨hSx, hSy, hSz⟩ := hSw; go_simp <;> with_reducible rfl)
      try simp only [Act.put, List.setIfInBounds_toArray, List.set_cons_zero, List.set_cons_succ]
      refine wpAnyH_take (i := 5) (v := ?v5) rfl (by kernel_rfl) (by kernel_rfl) (by kernel_rfl) (fun _ _ _ h => h) (Or.inl ⟨by rfl, ?y5⟩) hS0 ?r5
      case y5 => (intro w hSw; obtain ⟨hSx, hSy, hSz⟩ := hSw; go_simp <;> with_reducible rfl)
      try simp only [Act.put, List.setIfInBounds_toArray, List.set_cons_zero, List.set_cons_succ]
      refine wpAnyH_take (i := 6) (v := ?v6) rfl (by kernel_rfl) (by kernel_rfl) (by kernel_rfl) (fun _ _ _ h => h) (Or.inl ⟨by rfl, ?y6⟩) hS0 ?r6
      case y6 => (intro w hSw; obtain ⟨hSx, hSy, hSz⟩ := hSw; go_simp <;> with_reducible rfl)
      try simp only [Act.put, List.setIfInBounds_toArray, List.set_cons_zero, List.set_cons_succ]
      refine wpAnyH_take (i := 7) (v := ?v7) rfl (by kernel_rfl) (by kernel_rfl) (by kernel_rfl) (fun _ _ _ h => h) (Or.inl ⟨by rfl, ?y7⟩) hS0 ?r7
      case y7 => (intro w hSw; obtain ⟨hSx, hSy, hSz⟩ := hSw; go_simp <;> with_reducible rfl)
      try simp only [Act.put, List.setIfInBounds_toArray, List.set_cons_zero, List.set_cons_succ]
      refine wpAnyH_take (i := 8) (v := ?v8) rfl (by kernel_rfl) (by kernel_rfl) (by kernel_rfl) (fun _ _ _ h => h) (Or.inl ⟨by rfl, ?y8⟩) hS0 ?r8
      case y8 => (intro w hSw; obtain ⟨hSx, hSy, hSz⟩ := hSw; go_simp <;> with_reducible rfl)
      try simp only [Act.put, List.setIfInBounds_toArray, List.set_cons_zero, List.set_cons_succ]
      refine wpAnyH_take (i := 9) (v := ?v9) rfl (by kernel_rfl) (by kernel_rfl) (by kernel_rfl) (fun _ _ _ h => h) (Or.inl ⟨by rfl, ?y9⟩) hS0 ?r9
      case y9 => (intro w hSw; obtain ⟨hSx, hSy, hSz⟩ := hSw; go_simp <;> with_reducible rfl)
      try simp only [Act.put, List.setIfInBounds_toArray, List.set_cons_zero, List.set_cons_succ]
      refine wpAnyH_take (i := 10) (v := ?v10) rfl (by kernel_rfl) (by kernel_rfl) (by kernel_rfl) (fun _ _ _ h => h) (Or.inl ⟨by rfl, ?y10⟩) hS0 ?r10
      case y10 => (intro w hSw; obtain ⟨hSx, hSy, hSz⟩ := hSw; go_simp <;> with_reducible rfl)
      try simp only [Act.put, List.setIfInBounds_toArray, List.set_cons_zero, List.set_cons_succ]
      refine wpAnyH_take (i := 11) (v := ?v11) rfl (by kernel_rfl) (by kernel_rfl) (by kernel_rfl) (fun _ _ _ h => h) (Or.inl ⟨by rfl, ?y11⟩) hS0 ?r11
      case y11 => (intro w hSw; obtain ⟨hSx, hSy, hSz⟩ := hSw; go_simp <;> with_reducible rfl)
      try simp only [Act.put, List.setIfInBounds_toArray, List.set_cons_zero, List.set_cons_succ]
      have hal := Below.alloc (Below.refl W.heap.size W) (Nat.le_refl _) (.cells #[.float .f32 x, .float .f32 y, .float .f32 z] 63)
      have c2A := keep_cell hal c2
      have hSA : (fun w' : World => w'.cell? ⟨b2, d, none⟩ = some (.float .f32 x) ∧ w'.cell? ⟨b2, d + 1, none⟩ = some (.float .f32 y) ∧ w'.cell? ⟨b2, d + 2, none⟩ = some (.float .f32 z)) (W.alloc (.cells #[.float .f32 x, .float .f32 y, .float .f32 z] 63)).drew := ⟨(keep_cell hal e1 :), (keep_cell hal e2 :), (keep_cell hal e3 :)⟩
      have HRV : Hid (ORow0 (W.alloc (.cells #[.float .f32 x, .float .f32 y, .float .f32 z] 63)) 63 3 v pre.length (spCs (spotsAt xs (pre.map Subtype.val)))) := Lib.hid (World.ownsRow.alloc HPL.out.row _)
      clear hal
      refine wpAnyH_ready (rs := [1, 12]) (by kernel_rfl) (by simp) ?_
      refine AllReadyH.cons rfl (fun K hK => ?_) (AllReadyH.cons rfl (fun K hK => ?_) AllReadyH.nil)
      · go_simp
        refine hK.out _ _ hS0 (fun hS1 => ?_)
        clear hK K
        try simp only [Act.put, List.setIfInBounds_toArray, List.set_cons_zero, List.set_cons_succ]
        refine wpAnyH_ready (rs := [12]) (by kernel_rfl) (by simp) ?_
        refine AllReadyH.cons rfl (fun K hK => ?_) AllReadyH.nil
        go_simp
        refine hK.out _ _ hSA (fun hS2 => ?_)
        clear hK K
        try simp only [Act.put, List.setIfInBounds_toArray, List.set_cons_zero, List.set_cons_succ]
        refine wpAnyH_ready (rs := [13]) (by kernel_rfl) (by simp) ?_
        refine AllReadyH.cons rfl (fun K hK => ?_) AllReadyH.nil
        refine step_spread rfl _ _ _ rfl 63 (.agg #[.float .f32 0, .float .f32 0, .float .f32 0]) 3 12 Tryz.underlying31 infoSpR rfl (by decide) _ v pre.length _ rfl HRV.out ⟨W.heap.size, 0, none⟩ 1 1 [.float .f32 x, .float .f32 y, .float .f32 z] rfl rfl (World.news_of_block (heap_alloc_new W _)) (by simp [Value.oneCell']) (by decide) (by omega) (by decide) ?_
        intro b7 c7 w7 hr7 hb7 hlt7 hg7'
        have hg7 : (W.alloc (.cells #[.float .f32 x, .float .f32 y, .float .f32 z] 63)).grownBy w7 v.ownBlock := ⟨hg7'.os, hg7'.tape, hg7'.output, hg7'.size, hg7'.block⟩
        have hp7 := HPL.out.keep hg7
        have e7 := hp7.cell 2
        have g7 := hp7.free 2
        simp at e7
        have hkeep := HPL.out.round (j := 2) (u := .slice (some ⟨b7, 0, none⟩) (pre.length + 1) c7) hg7 W0.heap.size
        have hz7 : W.heap.size < w7.heap.size := by have := hg7.size; simp at this; omega
        have hS7 : (fun w' : World => w'.cell? ⟨b2, d, none⟩ = some (.float .f32 x) ∧ w'.cell? ⟨b2, d + 1, none⟩ = some (.float .f32 y) ∧ w'.cell? ⟨b2, d + 2, none⟩ = some (.float .f32 z)) w7 := by
          have kc : ∀ j, j < xl → w7.cell? ⟨b2, j, none⟩ = W.cell? ⟨b2, j, none⟩ := fun j _ => (World.cell?_setCell_other _ _ _ _ (by simp [p2])).symm.trans (World.cell?_of_block (w := W) (a := ⟨b2, j, none⟩) (hkeep.2 b2 p1 p2))
          exact ⟨(kc _ (by omega)).trans e1, (kc _ (by omega)).trans e2, (kc _ (by omega)).trans e3⟩
        refine hK.out _ _ hS7 (fun hS8 => ?_)
        clear hK K
        try simp only [Act.put, List.setIfInBounds_toArray, List.set_cons_zero, List.set_cons_succ]
        refine wpAnyH_take (i := 14) (v := ?v14) rfl (by kernel_rfl) (by kernel_rfl) (by kernel_rfl) (fun _ _ _ h => h) (Or.inl ⟨by rfl, ?y14⟩) hS7 ?r14
        case y14 => (intro w hSw; obtain ⟨hSx, hSy, hSz⟩ := hSw; go_simp <;> with_reducible rfl)
        try simp only [Act.put, List.setIfInBounds_toArray, List.set_cons_zero, List.set_cons_succ]
        refine wpAnyH_ready (rs := [15]) (by kernel_rfl) (by simp) ?_
        refine AllReadyH.cons rfl (fun K hK => ?_) AllReadyH.nil
        go_simp
        refine hK.out _ _ ⟨?_, ?_, ?_⟩ (fun hS9 => ?_)
        · exact (World.cell?_setCell_other _ _ _ _ (by simp [p2])).trans hS7.1
        · exact (World.cell?_setCell_other _ _ _ _ (by simp [p2])).trans hS7.2.1
        · exact (World.cell?_setCell_other _ _ _ _ (by simp [p2])).trans hS7.2.2
        clear hK K
        try simp only [Act.put, List.setIfInBounds_toArray, List.set_cons_zero, List.set_cons_succ]
        refine wpAnyH_done (by kernel_rfl) ?_ _
        gi_wp2
        have hst := HPL.out.step (j := 2) p7 rfl hg7 hr7 (hb7.imp id (fun h => by simpa using h))
        refine ⟨hkeep.1, hkeep.2, .slice (some ⟨b7, 0, none⟩) (pre.length + 1) c7, ?_⟩
        rw [← HSU.out] at hst
        rw [List.length_append]
        exact hst
      · go_simp
        refine hK.out _ _ hSA (fun hS1 => ?_)
        clear hK K
        try simp only [Act.put, List.setIfInBounds_toArray, List.set_cons_zero, List.set_cons_succ]
        refine wpAnyH_ready (rs := [1]) (by kernel_rfl) (by simp) ?_
        refine AllReadyH.cons rfl (fun K hK => ?_) AllReadyH.nil
        go_simp
        refine hK.out _ _ hSA (fun hS2 => ?_)
        clear hK K
        try simp only [Act.put, List.setIfInBounds_toArray, List.set_cons_zero, List.set_cons_succ]
        refine wpAnyH_ready (rs := [13]) (by kernel_rfl) (by simp) ?_
        refine AllReadyH.cons rfl (fun K hK => ?_) AllReadyH.nil
        refine step_spread rfl _ _ _ rfl 63 (.agg #[.float .f32 0, .float .f32 0, .float .f32 0]) 3 12 Tryz.underlying31 infoSpR rfl (by decide) _ v pre.length _ rfl HRV.out ⟨W.heap.size, 0, none⟩ 1 1 [.float .f32 x, .float .f32 y, .float .f32 z] rfl rfl (World.news_of_block (heap_alloc_new W _)) (by simp [Value.oneCell']) (by decide) (by omega) (by decide) ?_
        intro b7 c7 w7 hr7 hb7 hlt7 hg7'
        have hg7 : (W.alloc (.cells #[.float .f32 x, .float .f32 y, .float .f32 z] 63)).grownBy w7 v.ownBlock := ⟨hg7'.os, hg7'.tape, hg7'.output, hg7'.size, hg7'.block⟩
        have hp7 := HPL.out.keep hg7
        have e7 := hp7.cell 2
        have g7 := hp7.free 2
        simp at e7
        have hkeep := HPL.out.round (j := 2) (u := .slice (some ⟨b7, 0, none⟩) (pre.length + 1) c7) hg7 W0.heap.size
        have hz7 : W.heap.size < w7.heap.size := by have := hg7.size; simp at this; omega
        have hS7 : (fun w' : World => w'.cell? ⟨b2, d, none⟩ = some (.float .f32 x) ∧ w'.cell? ⟨b2, d + 1, none⟩ = some (.float .f32 y) ∧ w'.cell? ⟨b2, d + 2, none⟩ = some (.float .f32 z)) w7 := by
          have kc : ∀ j, j < xl → w7.cell? ⟨b2, j, none⟩ = W.cell? ⟨b2, j, none⟩ := fun j _ => (World.cell?_setCell_other _ _ _ _ (by simp [p2])).symm.trans (World.cell?_of_block (w := W) (a := ⟨b2, j, none⟩) (hkeep.2 b2 p1 p2))
          exact ⟨(kc _ (by omega)).trans e1, (kc _ (by omega)).trans e2, (kc _ (by omega)).trans e3⟩
        refine hK.out _ _ hS7 (fun hS8 => ?_)
        clear hK K
        try simp only [Act.put, List.setIfInBounds_toArray, List.set_cons_zero, List.set_cons_succ]
        refine wpAnyH_take (i := 14) (v := ?v24) rfl (by kernel_rfl) (by kernel_rfl) (by kernel_rfl) (fun _ _ _ h => h) (Or.inl ⟨by rfl, ?y24⟩) hS7 ?r24
        case y24 => (intro w hSw; obtain ⟨hSx, hSy, hSz⟩ := hSw; go_simp <;> with_reducible rfl)
        try simp only [Act.put, List.setIfInBounds_toArray, List.set_cons_zero, List.set_cons_succ]
        refine wpAnyH_ready (rs := [15]) (by kernel_rfl) (by simp) ?_
        refine AllReadyH.cons rfl (fun K hK => ?_) AllReadyH.nil
        go_simp
        refine hK.out _ _ ⟨?_, ?_, ?_⟩ (fun hS9 => ?_)
        · exact (World.cell?_setCell_other _ _ _ _ (by simp [p2])).trans hS7.1
        · exact (World.cell?_setCell_other _ _ _ _ (by simp [p2])).trans hS7.2.1
        · exact (World.cell?_setCell_other _ _ _ _ (by simp [p2])).trans hS7.2.2
        clear hK K
        try simp only [Act.put, List.setIfInBounds_toArray, List.set_cons_zero, List.set_cons_succ]
        refine wpAnyH_done (by kernel_rfl) ?_ _
        gi_wp2
        have hst := HPL.out.step (j := 2) p7 rfl hg7 hr7 (hb7.imp id (fun h => by simpa using h))
        refine ⟨hkeep.1, hkeep.2, .slice (some ⟨b7, 0, none⟩) (pre.length + 1) c7, ?_⟩
        rw [← HSU.out] at hst
        rw [List.length_append]
        exact hst
    case done =>
      rintro D ys W hD hys ⟨v, hP⟩ hK
      have hyl : ys.length = m := by have := congrArg List.length hys; simpa using this
      have hOWN : ∀ x ∈ xs, Own1 x := HXS.out.2.1
      have hSO := spotsOf_own hOWN (show xs.length = 3 * m by rw [HLX.out]; exact hxm)
      have hP2 : PushI (fun c => c = w3.heap.size) W0 W w3.heap.size 33 #[.int .i64 a, .int .i64 l, v] 63 3 v m (spCs (spotsOf xs m)) := by
        have h9 := hP
        rw [hyl, hys, spotsAt_range] at h9
        exact h9
      obtain ⟨ao, cc, rfl, hsp, hpos⟩ := ORow0.spots0 hP2.row (spotsOf_len ..).symm hSO
      have c0 := hP2.own.cell 0
      have c1 := hP2.own.cell 1
      have c2 := hP2.own.cell 2
      simp at c0 c1 c2
      have zr := hP2.ch.size
      have hDl : D < W.heap.size := (Array.getElem?_eq_some_iff.1 hK).1
      have HAR := Lib.hid (hP2.ch.own HA0.out (by omega))
      have HBR := Lib.hid (HB0'.out.trans (hP2.ch.toBelow (by omega) (fun b hb => by omega)))
      have HPOS : Hid (0 < (spotsOf xs m).length → ∃ b, ao = some ⟨b, 0, none⟩ ∧ OwnP1 W b (spotsOf xs m) ∧ w.heap.size < b ∧ b ≠ D) := Lib.hid fun h => by
        obtain ⟨b, e1, e2, e3⟩ := hpos h
        refine ⟨b, e1, e3, ?_, fun e => ?_⟩
        · have := (hP2.vb b e2).1
          omega
        · obtain ⟨o, ho, hc⟩ := ORow0.cells hP2.row e2
          rw [e, hK] at ho
          cases ho
          cases hc
      have HGIV := Lib.hid (ifSheet 0 W.heap.size a l ao cc (spotsOf xs m) (by rw [spotsOf_len]; omega) W hsp (Nat.le_refl _))
      have HRD : Hid (okSh a l (spotsOf xs m) = true → RdSheet s.data.toList a l (spotsOf xs m)) := Lib.hid fun h => ⟨P, Q, xs, m, HCUT.out, by have := HNS.out; rw [HAL.out] at this; exact this, HXS.out, by rw [HLX.out]; exact hxm, rfl, h⟩
      have HNR : Hid (okSh a l (spotsOf xs m) = false → ∀ a' l' ps', ¬ RdSheet s.data.toList a' l' ps') := Lib.hid fun h a' l' ps' hr => by
        obtain ⟨us, mm, q1, q2, q3, q4, q5⟩ := hr.parts HCUT.out
        have r1 := HNS.out.unique q1
        rw [HAL.out] at r1
        simp only [List.cons.injEq, and_true] at r1
        obtain ⟨rfl, rfl⟩ := r1
        obtain rfl := HXS.out.unique texts1 q2
        obtain rfl : m = mm := by have := HLX.out; omega
        rw [q4] at q5
        rw [q5] at h
        cases h
      obtain ⟨ps, hps⟩ : ∃ ps, ps = spotsOf xs m := ⟨_, rfl⟩
      have HK := Lib.hid hK
      rw [← hps] at HGIV HPOS HRD HNR c2
      clear hxm hSO hsp hpos hps hP hP2 hP0 hOWN hys hyl hBs hBn hK p1 p2 p3 p4 p5 p6 p9 hcap
      gi_wp2
      go_wp2_with fail
      refine HGIV.out.mono ?_
      rintro e w5 ⟨hy5, hn5, hb5⟩
      have z5 := hb5.size
      have hb9 := HBR.out.size
      have HB5 := Lib.hid (HBR.out.trans (hb5.mono hb9))
      have HA5 := HAR.out.below hb5 HAR.out.lt
      have HBL5 := Lib.hid hb5
      have HK5 : Hid (w5.heap[D]? = some (.deferred (some []))) := Lib.hid ((hb5.block D hDl).trans HK.out)
      have hDw : w.heap.size < D := by omega
      obtain ⟨⟨d0, d1, d2⟩, f0, f1, f2⟩ := HA5.tri
      cases hok : okSh a l ps
      · have HNN := Lib.hid (HNR.out hok)
        obtain rfl := hn5 hok
        clear hy5 hn5 hb5 hok
        go_wp2_with fail
        have HR9 : OwnC ((((w5.setCell ⟨w.heap.size, 0, none⟩ (.int .i64 0)).setCell ⟨w.heap.size, 1, none⟩ (.int .i64 0)).setCell ⟨w.heap.size, 2, none⟩ (.slice none 0 0)).putObj D (.deferred none)) w.heap.size #[.int .i64 0, .int .i64 0, .slice none 0 0] 33 := (World.putObj_heap_other (by omega)).trans (OwnC.set3 HA5 (.int .i64 0) (.int .i64 0) (.slice none 0 0))
        obtain ⟨⟨q0, q1, q2⟩, _, _, _⟩ := HR9.tri
        have hK9 : (((w5.setCell ⟨w.heap.size, 0, none⟩ (.int .i64 0)).setCell ⟨w.heap.size, 1, none⟩ (.int .i64 0)).setCell ⟨w.heap.size, 2, none⟩ (.slice none 0 0)).heap[D]? = some (.deferred (some [])) := (Below.heap_setCell _ _ _ _ (by show D ≠ w.heap.size; omega)).trans ((Below.heap_setCell _ _ _ _ (by show D ≠ w.heap.size; omega)).trans ((Below.heap_setCell _ _ _ _ (by show D ≠ w.heap.size; omega)).trans HK5.out))
        have hB9 : Below w.heap.size w ((((w5.setCell ⟨w.heap.size, 0, none⟩ (.int .i64 0)).setCell ⟨w.heap.size, 1, none⟩ (.int .i64 0)).setCell ⟨w.heap.size, 2, none⟩ (.slice none 0 0)).putObj D (.deferred none)) := (((HB5.out.setCell (Nat.le_refl _) _).setCell (Nat.le_refl _) _).setCell (Nat.le_refl _) _).trans (belowK_b (w := W0) (by omega) _ D _ _ (by omega) hK9 rfl rfl)
        clear HR9 d0 d1 d2 f0 f1 f2
        refine ret_backG (v := .tuple #[.agg #[.int .i64 0, .int .i64 0, .slice none 0 0], .bool false]) hK9 (by simp [results, Tryz.results12, go_sem, q0, q1, q2]) ⟨fun a l ps h => absurd h (HNN.out a l ps), fun _ => rfl, hB9⟩
      · have HYES := Lib.hid (HRD.out hok)
        obtain ⟨b, rfl, ho, hbb, hbD⟩ := HPOS.out (okSh_some hok)
        have HO := Lib.hid (ho.below HBL5.out ho.1.lt)
        obtain rfl := hy5 hok
        clear hy5 hn5 hb5 hok ho
        go_wp2_with fail
        have HR9 : OwnC ((((w5.setCell ⟨w.heap.size, 0, none⟩ (.int .i64 a)).setCell ⟨w.heap.size, 1, none⟩ (.int .i64 l)).setCell ⟨w.heap.size, 2, none⟩ (.slice (some ⟨b, 0, none⟩) ps.length cc)).putObj D (.deferred none)) w.heap.size #[.int .i64 a, .int .i64 l, .slice (some ⟨b, 0, none⟩) ps.length cc] 33 := (World.putObj_heap_other (by omega)).trans (OwnC.set3 HA5 (.int .i64 a) (.int .i64 l) (.slice (some ⟨b, 0, none⟩) ps.length cc))
        obtain ⟨⟨q0, q1, q2⟩, _, _, _⟩ := HR9.tri
        have hK9 : (((w5.setCell ⟨w.heap.size, 0, none⟩ (.int .i64 a)).setCell ⟨w.heap.size, 1, none⟩ (.int .i64 l)).setCell ⟨w.heap.size, 2, none⟩ (.slice (some ⟨b, 0, none⟩) ps.length cc)).heap[D]? = some (.deferred (some [])) := (Below.heap_setCell _ _ _ _ (by show D ≠ w.heap.size; omega)).trans ((Below.heap_setCell _ _ _ _ (by show D ≠ w.heap.size; omega)).trans ((Below.heap_setCell _ _ _ _ (by show D ≠ w.heap.size; omega)).trans HK5.out))
        have hB9 : Below w.heap.size w ((((w5.setCell ⟨w.heap.size, 0, none⟩ (.int .i64 a)).setCell ⟨w.heap.size, 1, none⟩ (.int .i64 l)).setCell ⟨w.heap.size, 2, none⟩ (.slice (some ⟨b, 0, none⟩) ps.length cc)).putObj D (.deferred none)) := (((HB5.out.setCell (Nat.le_refl _) _).setCell (Nat.le_refl _) _).setCell (Nat.le_refl _) _).trans (belowK_b (w := W0) (by omega) _ D _ _ (by omega) hK9 rfl rfl)
        clear HR9 d0 d1 d2 f0 f1 f2
        refine ret_backG (v := .tuple #[.agg #[.int .i64 a, .int .i64 l, .slice (some ⟨b, 0, none⟩) ps.length cc], .bool true]) hK9 (by simp [results, Tryz.results12, go_sem, q0, q1, q2]) ⟨fun a' l' ps' h => ?_, fun h => absurd HYES.out (h _ _ _), hB9⟩
        obtain ⟨rfl, rfl, rfl⟩ := h.unique HYES.out
        refine ⟨b, cc, rfl, HO.out.far (lo := b) (hi := b + 1) (fun c h1 h2 => ?_) (Nat.le_refl _) (Nat.lt_succ_self _), by omega⟩
        obtain rfl : c = b := by omega
        exact (World.putObj_heap_other (by omega)).trans ((Below.heap_setCell _ _ _ _ (by show c ≠ w.heap.size; omega)).trans ((Below.heap_setCell _ _ _ _ (by show c ≠ w.heap.size; omega)).trans (Below.heap_setCell _ _ _ _ (by show c ≠ w.heap.size; omega))))
    case stop =>
      rintro D c pre W _ _ h _
      exact h.elim
end Go.Proofs.YtlpgaekkhlinhaaGreatDoor

/- Nets, the law: where a spot of a net that is made round lies, as a plain function; its walk. -/
import Derived.Test.YtkjljajjjhfklaaNj15
import Derived.Test.YtkjljajjjhfklaaEaseB
namespace Go.Fl
open Go.RowKit
section
variable {P : Program} {ops : Array Oper} {o : Oper} {a : Act} {w : World}
/-- an append onto a row that may be nothing yet, in a drawn region -/
theorem step_app0 {K : Act → World → Prop} {Q : Exit → Act → World → Prop} {E : Prop} (hgd : o.guard = none) (s x : Operand) (t : TypeId)
    (ho : o.op = .call { callee := .builtin .append, args := #[s, x], argTypes := #[t, t] })
    (e : TypeId) (z : Value) (size bytes : Nat) (ht : P.underlying t = some (.slice e)) (hinfo : (P.info? e).map (fun i => (i.zero, i.size, i.bytes)) = some (some z, size, bytes)) (hzs : z.cells.size = size) (hsz : 0 < size)
    (v : Value) (n : Nat) (cs : List Value) (hs : a.eval s = v) (hrow : ORow0 w e size v n cs)
    (ad : Addr) (m c : Nat) (news : List Value) (hx : a.eval x = .slice (some ad) m c) (hl : news.length = m * size) (hnews : ∀ j u, news[j]? = some u → w.cell? (ad.add j) = some u) (h1 : ∀ u ∈ news, u.oneCell' = true)
    (hm : 0 < m) (hmn : n + m ≤ 1099511627776) (hby : bytes ≤ 64)
    (h : ∀ b' cap' w1, ORow w1 e size b' cap' (n + m) (cs ++ news) → (v.ownBlock = some b' ∨ b' = w.heap.size) → b' < w1.heap.size → w.grownBy w1 v.ownBlock → K (a.put o.dst (.slice (some ⟨b', 0, none⟩) (n + m) cap')) w1) :
    if Region.wanted o (yielded ops a.tmps) = true then Oper.wp P o a w K Q else E := by
  have hw : Region.wanted o (yielded ops a.tmps) = true := by simp [Region.wanted, hgd]
  rw [if_pos hw]
  obtain ⟨i, hi, hzz⟩ := Option.map_eq_some_iff.1 hinfo
  simp only [Prod.mk.injEq] at hzz
  obtain ⟨hz, hs1, hb1⟩ := hzz
  exact wp_append_lies w s x t ho 0 e i z size bytes ht hi hz hs1 hb1 hzs hsz v n cs hs hrow ad m c news hx hl hnews h1 hm (by simp [maxLen]; omega)
    (Nat.le_trans (Nat.mul_le_mul_left (n + m) hby) (by omega)) (Nat.zero_le _) w.heap.size rfl
    (fun g cap1 w1 hown hgrow hat hlt => h g cap1 w1 (ownsRow.orow hown) hat hlt hgrow)
end
theorem keep_set3 {W : World} {r q o : Nat} {v a b c : Value} (hq : q ≠ r) (h : W.cell? ⟨q, o, none⟩ = some v) : (((W.setCell ⟨r, 0, none⟩ a).setCell ⟨r, 1, none⟩ b).setCell ⟨r, 2, none⟩ c).cell? ⟨q, o, none⟩ = some v := by
  have e : (((W.setCell ⟨r, 0, none⟩ a).setCell ⟨r, 1, none⟩ b).setCell ⟨r, 2, none⟩ c).heap[q]? = W.heap[q]? := by
    rw [RowKit.Below.heap_setCell _ _ _ _ hq, RowKit.Below.heap_setCell _ _ _ _ hq, RowKit.Below.heap_setCell _ _ _ _ hq]
  exact (World.cell?_of_block (w := W) (a := ⟨q, o, none⟩) e).trans h
theorem grew_of {b : Nat} {w w1 : World} (h : w.grownBy w1 (some b)) : Grew b w w1 := ⟨h.os, h.tape, h.output, h.size, fun c hc hne => h.block c hc (by simpa using hne)⟩
end Go.Fl
namespace Go.Proofs.Ytkjljajjjhfklaa
open Go.RowKit Go.Fl
noncomputable def rdQ1 (ps : List Sp) (fs : List (List Int)) (i : Nat) : List Sp := qsOf (midsTo ps fs fs.length) (faI fs i fs.length)
def rdQ2 (ps : List Sp) (fs : List (List Int)) (i : Nat) : List Sp := (othA fs i).map fun k => spMul (spAdd (pAt ps i) (pAt ps k.toNat)) (can .f32 1056964608)
noncomputable def rdC (fs : List (List Int)) (i : Nat) : Nat := cntF (faI fs i fs.length).length
/-- where spot i comes -/
noncomputable def rdP (ps : List Sp) (fs : List (List Int)) (i : Nat) : Sp :=
  if (othBd fs i).length = 0 then spDiv (spAdd (spAdd (meanQ (rdQ1 ps fs i)) (spMul (meanQ (rdQ2 ps fs i)) (can .f32 1073741824))) (spMul (pAt ps i) (fsub (rdC fs i) (can .f32 1077936128)))) (rdC fs i)
  else if (othBd fs i).length = 2 then spAdd (spMul (pAt ps i) (can .f32 1061158912)) (spMul (spAdd (pAt ps (iAt (othBd fs i) 0).toNat) (pAt ps (iAt (othBd fs i) 1).toNat)) (can .f32 1040187392))
  else pAt ps i
theorem bd_in {ps : List Sp} {fs : List (List Int)} (h : OkNet ps fs (colA fs) (colB fs)) (x : Int) : InN ps.length (othBd fs x) := fun k hk => by
  have hm : iAt (othBd fs x) k ∈ othBd fs x := by
    unfold iAt; rw [List.getD_eq_getElem?_getD, List.getElem?_eq_getElem hk]; exact List.getElem_mem hk
  obtain ⟨i, hi, hv⟩ := oth_mem _ (Nat.le_refl _) _ hm
  have hlt : (firsts (colA fs) (colB fs) (sumTo fs fs.length)).getD i 0 < sumTo fs fs.length := by
    refine firsts_lt (A := colA fs) (B := colB fs) _ _ ?_
    rw [List.getD_eq_getElem?_getD, List.getElem?_eq_getElem hi]
    exact List.getElem_mem hi
  generalize (firsts (colA fs) (colB fs) (sumTo fs fs.length)).getD i 0 = t at hlt hv
  obtain ⟨j, k2, h1, h2, rfl⟩ := colTo_of (sideA fs) fs fs.length t hlt
  have hA : iAt (colA fs) (sumTo fs j + k2) = sideA fs j k2 := (colTo_at (sideA fs) fs fs.length j k2 h1 h2).2
  have hB : iAt (colB fs) (sumTo fs j + k2) = sideB fs j k2 := (colTo_at (sideB fs) fs fs.length j k2 h1 h2).2
  rcases hv with hv | hv
  · rw [hv, hA]
    exact (h.facets j h1).inN k2 h2
  · rw [hv, hB]
    exact (h.facets j h1).inN _ (Nat.mod_lt _ (by omega))
theorem bd_len {ps : List Sp} {fs : List (List Int)} (h : OkNet ps fs (colA fs) (colB fs)) (x : Int) : (othBd fs x).length ≤ 2048 :=
  Nat.le_trans (Nat.le_trans (othTo_len _ _ _ _ _ _) (firsts_lenA fs)) (OkNet.sum h)
/-- the facets of a corner are facets -/
theorem faI_in {fs : List (List Int)} {x : Int} : ∀ j, ∀ v ∈ faI fs x j, 0 ≤ v ∧ v < j
  | 0, v, hv => by cases hv
  | j + 1, v, hv => by
    rw [faI, List.mem_append] at hv
    rcases hv with hv | hv
    · have := faI_in j v hv; omega
    · split at hv
      · have : v = j := by simpa using hv
        omega
      · cases hv
theorem faI_at {fs : List (List Int)} {x : Int} : InN fs.length (faI fs x fs.length) := fun k hk => by
  have hm : iAt (faI fs x fs.length) k ∈ faI fs x fs.length := by
    unfold iAt; rw [List.getD_eq_getElem?_getD, List.getElem?_eq_getElem hk]; exact List.getElem_mem hk
  exact faI_in _ _ hm

set_option maxHeartbeats 4000000 in
set_option maxRecDepth 100000 in
theorem roundedN (lo hi lo' hi' : Nat) (sa fa : Option Addr) (sc fc eb ec mb mc i : Nat) (ps : List Sp) (fs : List (List Int)) (hp : ps.length ≤ 1048576) (hn : fs.length ≤ 1048576) (hsh : ∀ i, i < fs.length → (fAt fs i).length ≤ 1048576) (hok : OkNet ps fs (colA fs) (colB fs)) (hip : i < ps.length) (w : World)
    (hs : NetAt w lo hi sa fa ps fs) (hh : hi ≤ w.heap.size)
    (he : ∀ k r, k < (firsts (colA fs) (colB fs) (sumTo fs fs.length)).length → r < 4 → w.cell? ⟨eb, k * 4 + r, none⟩ = some (.int .i64 (edP (colA fs) (colB fs) (colF fs) (sumTo fs fs.length) ((firsts (colA fs) (colB fs) (sumTo fs fs.length)).getD k 0) r))) (heb : eb < w.heap.size)
    (hm : SlP w lo' hi' (some ⟨mb, 0, none⟩) (midsTo ps fs fs.length)) (hh' : hi' ≤ w.heap.size) :
    Calls Try.prog 29 #[.agg #[.slice sa ps.length sc, .slice fa fs.length fc], .int .i64 (i : Nat), .slice (some ⟨eb, 0, none⟩) (firsts (colA fs) (colB fs) (sumTo fs fs.length)).length ec, .slice (some ⟨mb, 0, none⟩) fs.length mc] w fun e w' =>
      (∃ a b c, e = .returned (.agg #[.float .f32 a, .float .f32 b, .float .f32 c]) ∧ IsSp a b c (rdP ps fs i)) ∧ Below w.heap.size w w' := by
  have hfl : (firsts (colA fs) (colB fs) (sumTo fs fs.length)).length ≤ 1048576 := by have := firsts_lenA fs; have := OkNet.sum hok; omega
  have hoth : ∀ (g : Nat) (q : Int → Bool) (hgo : ∀ args w, Sem.run Try.prog (callFunc g args) w = .ok (.enter g args) w) (hcl : ∀ a b f s w, Calls Try.prog g #[.agg #[.int .i64 a, .int .i64 b, .int .i64 f, .int .i64 s]] w fun e w' => e = .returned (.bool (q s)) ∧ Below w.heap.size w w') (W : World), Below w.heap.size w W →
      Calls Try.prog 56 #[.slice (some ⟨eb, 0, none⟩) (firsts (colA fs) (colB fs) (sumTo fs fs.length)).length ec, .int .i64 (i : Nat), .func (.func g) #[] #[]] W fun e w' =>
      (∃ b cap, e = .returned (.slice (some ⟨b, 0, none⟩) (othTo (fun s => q (secF (colA fs) (colB fs) (colF fs) (sumTo fs fs.length) s)) (colA fs) (colB fs) (firsts (colA fs) (colB fs) (sumTo fs fs.length)) i (firsts (colA fs) (colB fs) (sumTo fs fs.length)).length).length cap) ∧ ORow w' 2 1 b cap (othTo (fun s => q (secF (colA fs) (colB fs) (colF fs) (sumTo fs fs.length) s)) (colA fs) (colB fs) (firsts (colA fs) (colB fs) (sumTo fs fs.length)) i (firsts (colA fs) (colB fs) (sumTo fs fs.length)).length).length ((othTo (fun s => q (secF (colA fs) (colB fs) (colF fs) (sumTo fs fs.length) s)) (colA fs) (colB fs) (firsts (colA fs) (colB fs) (sumTo fs fs.length)) i (firsts (colA fs) (colB fs) (sumTo fs fs.length)).length).map (Value.int .i64)) ∧ W.heap.size ≤ b) ∧ Below W.heap.size W w' := fun g q hgo hcl W hW =>
    others eb (eb + 1) eb ec (sumTo fs fs.length) g q (colA fs) (colB fs) (colF fs) (firsts (colA fs) (colB fs) (sumTo fs fs.length)) i hfl (Nat.le_refl _) (Nat.lt_succ_self _) W (by have := hW.size; omega) hgo hcl (fun k r h1 h2 => (hW.cell (p := ⟨eb, k * 4 + r, none⟩) heb).trans (he k r h1 h2))
  have HO1 : Hid (∀ W, Below w.heap.size w W → Calls Try.prog 56 #[.slice (some ⟨eb, 0, none⟩) (firsts (colA fs) (colB fs) (sumTo fs fs.length)).length ec, .int .i64 (i : Nat), .func (.func 31) #[] #[]] W fun e w' => (∃ b cap, e = .returned (.slice (some ⟨b, 0, none⟩) (othBd fs i).length cap) ∧ ORow w' 2 1 b cap (othBd fs i).length ((othBd fs i).map (Value.int .i64)) ∧ W.heap.size ≤ b) ∧ Below W.heap.size W w') := Lib.hid fun W hW => hoth 31 (fun s => decide (s < 0)) (fun _ _ => rfl) isBorder W hW
  have HO2 : Hid (∀ W, Below w.heap.size w W → Calls Try.prog 56 #[.slice (some ⟨eb, 0, none⟩) (firsts (colA fs) (colB fs) (sumTo fs fs.length)).length ec, .int .i64 (i : Nat), .func (.func 57) #[] #[]] W fun e w' => (∃ b cap, e = .returned (.slice (some ⟨b, 0, none⟩) (othA fs i).length cap) ∧ ORow w' 2 1 b cap (othA fs i).length ((othA fs i).map (Value.int .i64)) ∧ W.heap.size ≤ b) ∧ Below W.heap.size W w') := Lib.hid fun W hW => hoth 57 (fun _ => true) (fun _ _ => rfl) anyEdge W hW
  have HFA := Lib.hid (fun W h1 h2 => facetsAtI lo hi sa fa ps.length sc fc fs i hn hsh W h1 h2)
  have HIN1 := Lib.hid (bd_in hok (i : Int))
  have HIN2 := Lib.hid (oth_in hok (i : Int))
  have hf256 := hok.f256
  have hl1 := bd_len hok (i : Int)
  have hl2 := othA_len hok (i : Int)
  have HS := Lib.hid hs
  have HM := Lib.hid hm
  obtain ⟨sb, so, hsa, l1, l2, hcs⟩ := hs.spots (by omega)
  subst hsa
  obtain ⟨x0, y0, z0, s0, s1, s2, f0, f1, f2⟩ := hcs i hip
  have HPI := Lib.hid (IsSp.of f0 f1 f2)
  have i0 : (0 : Int) ≤ (i : Int) := by omega
  have i1 : (i : Int) < (ps.length : Int) := by omega
  obtain ⟨E, hE⟩ : ∃ E, E = (firsts (colA fs) (colB fs) (sumTo fs fs.length)).length := ⟨_, rfl⟩
  rw [← hE] at HO1 HO2 ⊢
  have HRD := Lib.hid (show rdP ps fs i = rdP ps fs i from rfl)
  have HP0 : Hid (OwnC (((w.alloc (.cells #[.slice (some ⟨sb, so, none⟩) ps.length sc, .slice fa fs.length fc] 27)).alloc (.cells #[.float .f32 0, .float .f32 0, .float .f32 0] 46)).alloc (.cells #[.float .f32 x0, .float .f32 y0, .float .f32 z0] 46)) w.heap.size #[.slice (some ⟨sb, so, none⟩) ps.length sc, .slice fa fs.length fc] 27) := Lib.hid (((OwnC.new rfl).alloc _).alloc _)
  have HP1 : Hid (OwnC (((w.alloc (.cells #[.slice (some ⟨sb, so, none⟩) ps.length sc, .slice fa fs.length fc] 27)).alloc (.cells #[.float .f32 0, .float .f32 0, .float .f32 0] 46)).alloc (.cells #[.float .f32 x0, .float .f32 y0, .float .f32 z0] 46)) (w.heap.size + 1) #[.float .f32 0, .float .f32 0, .float .f32 0] 46) := Lib.hid ((OwnC.new (by simp)).alloc _)
  have HP2 : Hid (OwnC (((w.alloc (.cells #[.slice (some ⟨sb, so, none⟩) ps.length sc, .slice fa fs.length fc] 27)).alloc (.cells #[.float .f32 0, .float .f32 0, .float .f32 0] 46)).alloc (.cells #[.float .f32 x0, .float .f32 y0, .float .f32 z0] 46)) (w.heap.size + 1 + 1) #[.float .f32 x0, .float .f32 y0, .float .f32 z0] 46) := Lib.hid (OwnC.new (by simp))
  have HBA : Hid (Below w.heap.size w (((w.alloc (.cells #[.slice (some ⟨sb, so, none⟩) ps.length sc, .slice fa fs.length fc] 27)).alloc (.cells #[.float .f32 0, .float .f32 0, .float .f32 0] 46)).alloc (.cells #[.float .f32 x0, .float .f32 y0, .float .f32 z0] 46))) := Lib.hid (by (repeat (first | exact Below.refl _ _ | assumption | refine below_dr ?_ _ | refine Below.alloc ?_ (by first | omega | (simp; done) | (simp; omega)) _ | refine Below.setCell ?_ (by first | omega | (simp; done) | (simp; omega)) _ | refine Below.trans ?_ (Below.mono (by assumption) (by first | omega | (simp; done) | (simp; omega))))))
  have hsbl : sb < w.heap.size := by omega
  have hsbn : ¬ sb = w.heap.size := by omega
  have hsbn2 : ¬ sb = w.heap.size + 1 := by omega
  have hsbn3 : ¬ sb = w.heap.size + 1 + 1 := by omega
  have hsbl2 : sb < w.heap.size + 1 := by omega
  have hsbl3 : sb < w.heap.size + 1 + 1 := by omega
  clear hfl hoth hs hm hE he f0 f1 f2 hok
  go_enter Try.func29, Try.ntmps29
  go_wp2_with fail
  refine (HO1.out _ HBA.out).mono ?_
  rintro e w3 ⟨⟨b1, c1, rfl, hr1, hbb1⟩, hb3⟩
  have z3 := hb3.size
  simp at z3 hbb1
  have HB3 := Lib.hid (HBA.out.trans (hb3.mono (by simp; omega)))
  have HQ0 := Lib.hid (HP0.out.below hb3 (by simp; omega))
  have HQ1 := Lib.hid (HP1.out.below hb3 (by simp))
  have HQ2 := Lib.hid (HP2.out.below hb3 (by simp))
  have HR1 := Lib.hid hr1
  have hsw : SlP w3 lo hi (some ⟨sb, so, none⟩) ps := HS.out.spots.far (Far.below HB3.out hh)
  have HSW := Lib.hid hsw
  clear hb3 hr1 HP0 HP1 HP2 HBA s0 s1 s2 hcs hsbn hsbn2 hsbn3 hsbl2 hsbl3 hsw
  obtain ⟨LB, hLB⟩ : ∃ L, L = othBd fs i := ⟨_, rfl⟩
  rw [← hLB] at HR1 HIN1 hl1 ⊢
  have HLB := Lib.hid hLB
  clear hLB
  have q0 := HQ0.out.cell 0
  have q2a := HQ2.out.cell 0
  have q2b := HQ2.out.cell 1
  have q2c := HQ2.out.cell 2
  have q1a := HQ1.out.free 0
  have q1b := HQ1.out.free 1
  have q1c := HQ1.out.free 2
  have q1d := HQ1.out.cell 0
  have q1e := HQ1.out.cell 1
  have q1f := HQ1.out.cell 2
  simp at q0 q2a q2b q2c q1d q1e q1f
  by_cases hz : LB.length = 0
  · --ZERO
    have hz1 : ¬ (0 : Int) < (LB.length : Int) := by omega
    have HV : Hid (rdP ps fs i = spDiv (spAdd (spAdd (meanQ (rdQ1 ps fs i)) (spMul (meanQ (rdQ2 ps fs i)) (can .f32 1073741824))) (spMul (pAt ps i) (fsub (rdC fs i) (can .f32 1077936128)))) (rdC fs i)) := Lib.hid (by unfold rdP; rw [← HLB.out, if_pos hz])
    have qx := HQ0.out.cell 1
    simp at qx
    obtain ⟨r1, hr1⟩ : ∃ r, r = w3.heap.size := ⟨_, rfl⟩
    have n1 : w.heap.size < w3.heap.size := by omega
    have n2 : ¬ w.heap.size = w3.heap.size := by omega
    have n3 : ¬ w.heap.size = w3.heap.size + 1 := by omega
    have n4 : w.heap.size < w3.heap.size + 1 := by omega
    have HFL : Hid (SlN ((w3.alloc (.cells #[] 46)).alloc (.cells #[] 46)) lo hi fa fs) := Lib.hid ((HS.out.facets.far (Far.below HB3.out hh)).far (((Far.refl _ _ _).alloc _ (by omega)).alloc _ (by simp; omega)))
    have HRN : Hid (ORow ((w3.alloc (.cells #[] 46)).alloc (.cells #[] 46)) 46 3 r1 0 0 []) := Lib.hid (by rw [hr1]; exact (ORow.new w3 _ _).below (Below.alloc (Below.refl _ _) (Nat.le_refl _) _) (by simp))
    have HRM : Hid (ORow ((w3.alloc (.cells #[] 46)).alloc (.cells #[] 46)) 46 3 (r1 + 1) 0 0 []) := Lib.hid (by rw [hr1]; have := ORow.new (w3.alloc (.cells #[] 46)) 46 3; simpa using this)
    have HB4 : Hid (Below w3.heap.size w3 ((w3.alloc (.cells #[] 46)).alloc (.cells #[] 46))) := Lib.hid (by (repeat (first | exact Below.refl _ _ | assumption | refine below_dr ?_ _ | refine Below.alloc ?_ (by first | omega | (simp; done) | (simp; omega)) _ | refine Below.setCell ?_ (by first | omega | (simp; done) | (simp; omega)) _ | refine Below.trans ?_ (Below.mono (by assumption) (by first | omega | (simp; done) | (simp; omega))))))
    have HZ4 : Hid (((w3.alloc (.cells #[] 46)).alloc (.cells #[] 46)).heap.size = w3.heap.size + 2) := Lib.hid (by simp)
    clear hz
    go_wp2_with fail
    refine Calls.mono (HFA.out _ HFL.out (by simp; omega)) ?_
    rintro e w5 ⟨b2, c2, rfl, hr2, hbb2, hb5⟩
    have z5 : w3.heap.size + 2 ≤ w5.heap.size := by have := hb5.size; simp at this; omega
    have hbb2 : w3.heap.size + 2 ≤ b2 := by simp at hbb2; omega
    have hb35 : Below w3.heap.size w3 w5 := HB4.out.trans (hb5.mono HB4.out.size)
    have HB5 := Lib.hid (HB3.out.trans (hb35.mono HB3.out.size))
    have HP0 := Lib.hid (HQ0.out.below hb35 (by omega))
    have HP1 := Lib.hid (HQ1.out.below hb35 (by omega))
    have HP2 := Lib.hid (HQ2.out.below hb35 (by omega))
    have HRN5 := Lib.hid (HRN.out.below hb5 (by simp; omega))
    have HRM5 := Lib.hid (HRM.out.below hb5 (by simp; omega))
    have HSW5 := Lib.hid (HS.out.spots.far (Far.below HB5.out hh))
    have HMW5 := Lib.hid (HM.out.far (Far.below HB5.out hh'))
    have HLI := Lib.hid (hr2.ints rfl)
    have hb2l := hr2.lt
    have hfl := faI_len fs i fs.length
    have HQL := Lib.hid (qsOf_len (midsTo ps fs fs.length) (faI fs i fs.length))
    have HIN3 : Hid (InN (midsTo ps fs fs.length).length (faI fs i fs.length)) := Lib.hid (by rw [midsTo_len]; exact faI_at)
    have HML := Lib.hid (midsTo_len ps fs fs.length)
    have hr1l : r1 < w5.heap.size := by omega
    have hr1l2 : r1 + 2 ≤ w5.heap.size := by omega
    have hr1b : ¬ r1 = b2 := by omega
    have hr1w : w.heap.size + 3 ≤ r1 := by omega
    have HR1E := Lib.hid hr1
    clear hr2 hb5 hb35 hr1 HQ0 HQ1 HQ2 HRN HRM HFL HB4 HZ4 HSW HR1 q0 q2a q2b q2c q1a q1b q1c q1d q1e q1f qx n1 n2 n3 n4
    obtain ⟨FL, hFL⟩ : ∃ L, L = faI fs i fs.length := ⟨_, rfl⟩
    rw [← hFL] at HLI hfl HQL HIN3 ⊢
    have HFLE := Lib.hid hFL
    clear hFL
    obtain ⟨MD, hMD⟩ : ∃ L, L = midsTo ps fs fs.length := ⟨_, rfl⟩
    rw [← hMD] at HMW5 HQL HIN3 HML
    have HMDE := Lib.hid hMD
    clear hMD
    go_wp2_with fail
    go_loopw [11, 58] (fun out iv wq => ∃ (k b cap : Nat) (cs2 : List Value), k ≤ FL.length ∧ iv = .int .i64 k ∧ out = .slice (some ⟨b, 0, none⟩) k cap ∧ Hid (ORow wq 46 3 b cap k cs2) ∧ Hid (SpL cs2 ((qsOf MD FL).take k)) ∧ (b = r1 ∨ w5.heap.size ≤ b) ∧ Hid (Ch (fun c => c = r1) w5 wq)) (fun _ iv _ => FL.length - (intOf iv).toNat)
    case atStart => exact ⟨0, _, _, [], by omega, rfl, by rw [HR1E.out], HRN5, Lib.hid (by simpa using SpL.nil), .inl rfl, Lib.hid (Ch.refl _ _)⟩
    case round =>
      clear HRN5
      obtain ⟨k, b, cap, cs2, hk, rfl, rfl, HRQ, HSQ, hbl, HCQ⟩ := hrel
      have hzq := HCQ.out.size
      have hrq := HRQ.out.lt
      have HBQ : Hid (Below r1 w5 wr) := Lib.hid (HCQ.out.toBelow (by omega) (fun c hc => by omega))
      by_cases hlt3 : k < FL.length
      · obtain ⟨b2', o2', e2', _, _, hc2⟩ := HLI.out (by omega)
        cases e2'
        have e1 := HCQ.out.cell (hc2 k hlt3) (by omega)
        obtain ⟨u, sb', so', x', y', z', hv, hvl, hsa, _, _, d1, d2, d3, q1⟩ := cornAt (HMW5.out.far (Far.below HBQ.out (by omega))) HIN3.out hlt3
        cases hsa
        rw [hv, Nat.zero_add] at e1
        rw [Nat.zero_add] at d1 d2 d3
        have HP := Lib.hid q1
        have HQE : Hid (pAt (qsOf MD FL) k = cornP MD FL k) := Lib.hid (by rw [qsOf_at hlt3]; rfl)
        have t0 : (0 : Int) ≤ (k : Int) := by omega
        have t1 : (k : Int) < (FL.length : Int) := by omega
        have v0 : (0 : Int) ≤ (u : Int) := by omega
        have v1 : (u : Int) < (fs.length : Int) := by have := HML.out; omega
        clear hc2 q1 hv
        go_wp2_with (at_builtin; refine wpList_app rfl _ _ _ rfl 46 (.agg #[.float .f32 0, .float .f32 0, .float .f32 0]) 3 12 Try.underlying24 infoSpot' rfl (by decide) _ #[.float .f32 x', .float .f32 y', .float .f32 z'] 46 rfl (by simp [Value.oneCell']) b cap _ _ rfl rfl HRQ.out (by omega) (by decide) ?_; intro b5 cap5 w6 hr5 hg5 hgr5)
        go_roundw
        case rel =>
          refine ⟨k + 1, b5, cap5, _, by omega, by go_num, rfl, Lib.hid hr5, Lib.hid ?_, by omega, Lib.hid (HCQ.out.trans (P' := fun c => c = b) (Ch.grew hgr5 rfl) (fun c hc => by subst hc; exact hbl))⟩
          rw [take_snoc (by rw [HQL.out]; exact hlt3), HQE.out]
          refine HSQ.out.snoc ?_ HP.out
          rw [HRQ.out.clen, List.length_take, HQL.out, Nat.min_eq_left hk]
        case measure => simp [intOf]; omega
      · have hkn : k = FL.length := by omega
        subst hkn
        have hsq := HSQ.out
        rw [List.take_of_length_le (by rw [HQL.out]; exact Nat.le_refl _)] at hsq
        have HSQ := Lib.hid hsq
        have hBw : Below w.heap.size w wr := HB5.out.trans (HBQ.out.mono (by omega))
        have HB6 := Lib.hid hBw
        have HO2' := Lib.hid (HO2.out wr hBw)
        clear hsq hBw
        go_wp2_with fail
        refine HO2'.out.mono ?_
        rintro e w7 ⟨⟨b3, c3, rfl, hr3, hbb3⟩, hb7⟩
        have z7 := hb7.size
        have hch7 : Ch (fun c => c = r1) w5 w7 := HCQ.out.trans (P' := fun _ => False) (Ch.below hb7) (fun _ h => h.elim)
        have HB7 := Lib.hid (HB6.out.trans (hb7.mono HB6.out.size))
        have HC7 := Lib.hid hch7
        have HRQ7 := Lib.hid (HRQ.out.below hb7 hrq)
        have HRM7 := Lib.hid (HRM5.out.far (lo := r1 + 1) (hi := r1 + 2) (hch7.far (by omega) (fun c h1 h2 e => by omega)) (Nat.le_refl _) (by omega))
        have HLJ := Lib.hid (hr3.ints rfl)
        have hb3l := hr3.lt
        have HP07 := Lib.hid (hch7.own HP0.out (by omega))
        have HP17 := Lib.hid (hch7.own HP1.out (by omega))
        have HP27 := Lib.hid (hch7.own HP2.out (by omega))
        have HSW7 := Lib.hid (HS.out.spots.far (Far.below HB7.out hh))
        obtain ⟨QL, hQL⟩ : ∃ L, L = othA fs i := ⟨_, rfl⟩
        rw [← hQL] at HLJ HIN2 hl2 ⊢
        have HQLE := Lib.hid hQL
        obtain ⟨Q2, hQ2⟩ : ∃ L, L = rdQ2 ps fs i := ⟨_, rfl⟩
        have HQ2L : Hid (Q2.length = QL.length) := Lib.hid (by rw [hQ2, hQL]; simp [rdQ2])
        have HQ2A : Hid (∀ k, k < QL.length → pAt Q2 k = spMul (spAdd (pAt ps i) (cornP ps QL k)) (can .f32 1056964608)) := Lib.hid fun k hk => by rw [hQ2, hQL] at *; simp [pAt, rdQ2, hk, cornP, iAt]
        have HQ2E := Lib.hid hQ2
        have hbr2 : ¬ b = r1 + 1 := by omega
        clear hr3 hb7 hch7 hQL hQ2 HO2' HRQ HRM5 HP0 HP1 HP2 HSW5 HCQ HBQ
        go_wp2_with fail
        go_loopw [12, 74] (fun out iv wq => ∃ (k b cap : Nat) (cs2 : List Value), k ≤ QL.length ∧ iv = .int .i64 k ∧ out = .slice (some ⟨b, 0, none⟩) k cap ∧ Hid (ORow wq 46 3 b cap k cs2) ∧ Hid (SpL cs2 (Q2.take k)) ∧ (b = r1 + 1 ∨ w7.heap.size ≤ b) ∧ Hid (Ch (fun c => c = r1 + 1) w7 wq)) (fun _ iv _ => QL.length - (intOf iv).toNat)
        case atStart => exact ⟨0, _, _, [], by omega, rfl, by rw [HR1E.out], HRM7, Lib.hid (by simpa using SpL.nil), .inl rfl, Lib.hid (Ch.refl _ _)⟩
        case round =>
          clear HRM7
          obtain ⟨k, b9, cap9, cs9, hk, rfl, rfl, HRK, HSK, hbl9, HCK⟩ := hrel
          have hzk := HCK.out.size
          have hrk := HRK.out.lt
          have HBK : Hid (Below (r1 + 1) w7 wr) := Lib.hid (HCK.out.toBelow (by omega) (fun c hc => by omega))
          have p0 := (HCK.out.own HP07.out (by omega)).cell 0
          have p2a := (HCK.out.own HP27.out (by omega)).cell 0
          have p2b := (HCK.out.own HP27.out (by omega)).cell 1
          have p2c := (HCK.out.own HP27.out (by omega)).cell 2
          simp at p0 p2a p2b p2c
          by_cases hlt3 : k < QL.length
          · obtain ⟨b2', o2', e2', _, _, hc2⟩ := HLJ.out (by omega)
            cases e2'
            have e1 := HCK.out.cell (hc2 k hlt3) (by omega)
            obtain ⟨u, sb', so', x', y', z', hv, hvl, hsa, _, _, d1, d2, d3, q1⟩ := cornAt (HSW7.out.far (Far.below HBK.out (by omega))) HIN2.out hlt3
            cases hsa
            rw [hv, Nat.zero_add] at e1
            have HP := Lib.hid q1
            have HQE := Lib.hid (HQ2A.out k hlt3)
            have t0 : (0 : Int) ≤ (k : Int) := by omega
            have t1 : (k : Int) < (QL.length : Int) := by omega
            have v0 : (0 : Int) ≤ (u : Int) := by omega
            have v1 : (u : Int) < (ps.length : Int) := by omega
            have HKS : Hid (∀ W, Below (w.heap.size + 3) wr W → W.cell? ⟨w.heap.size, 0, none⟩ = some (.slice (some ⟨sb, so, none⟩) ps.length sc) ∧ W.cell? ⟨w.heap.size + 1 + 1, 0, none⟩ = some (.float .f32 x0) ∧ W.cell? ⟨w.heap.size + 1 + 1, 1, none⟩ = some (.float .f32 y0) ∧ W.cell? ⟨w.heap.size + 1 + 1, 2, none⟩ = some (.float .f32 z0) ∧ W.cell? ⟨sb, so + u * 3, none⟩ = some (.float .f32 x') ∧ W.cell? ⟨sb, so + u * 3 + 1, none⟩ = some (.float .f32 y') ∧ W.cell? ⟨sb, so + u * 3 + 2, none⟩ = some (.float .f32 z')) := Lib.hid fun W hW =>
              ⟨(hW.cell (p := ⟨_, _, none⟩) (by first | omega | (simp; done) | (simp; omega))).trans p0, (hW.cell (p := ⟨_, _, none⟩) (by first | omega | (simp; done) | (simp; omega))).trans p2a, (hW.cell (p := ⟨_, _, none⟩) (by first | omega | (simp; done) | (simp; omega))).trans p2b, (hW.cell (p := ⟨_, _, none⟩) (by first | omega | (simp; done) | (simp; omega))).trans p2c, (hW.cell (p := ⟨_, _, none⟩) (by first | omega | (simp; done) | (simp; omega))).trans d1, (hW.cell (p := ⟨_, _, none⟩) (by first | omega | (simp; done) | (simp; omega))).trans d2, (hW.cell (p := ⟨_, _, none⟩) (by first | omega | (simp; done) | (simp; omega))).trans d3⟩
            clear hc2 q1 hv
            go_wp2_with fail
            go_region_held3 (fun W => W.cell? ⟨w.heap.size, 0, none⟩ = some (.slice (some ⟨sb, so, none⟩) ps.length sc) ∧ W.cell? ⟨w.heap.size + 1 + 1, 0, none⟩ = some (.float .f32 x0) ∧ W.cell? ⟨w.heap.size + 1 + 1, 1, none⟩ = some (.float .f32 y0) ∧ W.cell? ⟨w.heap.size + 1 + 1, 2, none⟩ = some (.float .f32 z0) ∧ W.cell? ⟨sb, so + u * 3, none⟩ = some (.float .f32 x') ∧ W.cell? ⟨sb, so + u * 3 + 1, none⟩ = some (.float .f32 y') ∧ W.cell? ⟨sb, so + u * 3 + 2, none⟩ = some (.float .f32 z')) (first | go_keep | exact HKS.out _ hBk | exact HKS.out _ (hBk.alloc (by omega) _)) (first
              | (go_at_call 30; (with_reducible refine (addB x0 y0 z0 x' y' z' _ _ HPI.out HP.out _).mono ?_); rintro e w8 ⟨⟨a1, b1', c1', rfl, h1⟩, hb8⟩; have K1 := Lib.hid h1; have hB8 : Below wr.heap.size wr w8 := (below_dr (Below.refl _ _) 1).trans hb8; have hBk : Below (w.heap.size + 3) wr w8 := hB8.mono (by omega); clear h1 hb8)
              | (go_at_call 32; (with_reducible refine (timesB a1 b1' c1' 1056964608 _ _ K1.out (F32.mk _) _).mono ?_); rintro e w9 ⟨⟨a2, b2'', c2', rfl, h2⟩, hb9⟩; have K2 := Lib.hid h2; have hB9 : Below wr.heap.size wr w9 := hB8.trans (hb9.mono hB8.size); have z9 := hB9.size; have HRV : Hid (ORow0 (w9.alloc (.cells #[.float .f32 a2, .float .f32 b2'', .float .f32 c2'] 46)) 46 3 (.slice (some ⟨b9, 0, none⟩) k cap9) k cs9) := Lib.hid (ORow.row0 (HRK.out.below (hB9.alloc hB9.size _) hrk)); have hBk : Below (w.heap.size + 3) wr w9 := hB9.mono (by omega); clear h2 hb9)
              | (refine step_app0 rfl (.tmp 78) (.tmp 87) 24 rfl 46 (.agg #[.float .f32 0, .float .f32 0, .float .f32 0]) 3 12 Try.underlying24 infoSpot' rfl (by decide) _ k cs9 (by simp [Act.eval]) HRV.out ⟨w9.heap.size, 0, none⟩ 1 1 [.float .f32 a2, .float .f32 b2'', .float .f32 c2'] (by simp [Act.eval]) rfl (World.news_of_block (heap_alloc_new w9 _)) (by simp [Value.oneCell']) (by decide) (by omega) (by decide) ?_; intro bX capX wX hrX hbX hlX hgX; have HRX := Lib.hid hrX; have hgX' : Grew b9 (w9.alloc (.cells #[.float .f32 a2, .float .f32 b2'', .float .f32 c2'] 46)) wX := grew_of hgX; have hBk : Below (w.heap.size + 3) wr wX := (hBk.alloc (by omega) _).trans (hgX'.below (by omega) (by simp; omega)); have HGX := Lib.hid hgX'; have HBX := Lib.hid hB9; clear hrX hgX hgX'))
            go_wp2_with fail
            have hcl9 : cs9.length = k * 3 := HRK.out.clen
            have hbX' : bX = b9 ∨ bX = (w9.alloc (.cells #[.float .f32 a2, .float .f32 b2'', .float .f32 c2'] 46)).heap.size := hbX.imp (fun h => by simpa [Value.ownBlock] using h.symm) id
            simp at hbX'
            have hz9 := HBX.out.size
            have HCX : Hid (Ch (fun c => c = r1 + 1) w7 wX) := Lib.hid ((HCK.out.trans (P' := fun _ => False) (Ch.below (HBX.out.alloc HBX.out.size (.cells #[.float .f32 a2, .float .f32 b2'', .float .f32 c2'] 46))) (fun _ h => h.elim)).trans (P' := fun c => c = b9) (Ch.grew HGX.out rfl) (fun c hc => by subst hc; exact hbl9))
            have HSX : Hid (SpL (cs9 ++ [.float .f32 a2, .float .f32 b2'', .float .f32 c2']) (Q2.take (k + 1))) := Lib.hid (by
              rw [take_snoc (by rw [HQ2L.out]; exact hlt3), HQE.out]
              refine HSK.out.snoc ?_ K2.out
              rw [hcl9, List.length_take, HQ2L.out, Nat.min_eq_left hk])
            clear hbX hcl9
            go_roundw
            case rel => exact ⟨k + 1, bX, capX, _, by omega, by go_num, rfl, HRX, HSX, by omega, HCX⟩
            case measure => simp [intOf]; omega
          · have hkn : k = QL.length := by omega
            subst hkn
            have hsk := HSK.out
            rw [List.take_of_length_le (by rw [HQ2L.out]; exact Nat.le_refl _)] at hsk
            have HBW : Hid (Below w.heap.size w wr) := Lib.hid (HB7.out.trans (HBK.out.mono (by omega)))
            have HR6 := Lib.hid (HRQ7.out.far (lo := b) (hi := b + 1) (HCK.out.far (by have := HRQ7.out.lt; omega) (fun c h1 h2 e => by omega)) (Nat.le_refl _) (Nat.lt_succ_self _))
            have HMN1 : Hid (∀ W, Below wr.heap.size wr W → Calls Try.prog 58 #[.slice (some ⟨b, 0, none⟩) FL.length cap] W fun e w' => (∃ a b c, e = .returned (.agg #[.float .f32 a, .float .f32 b, .float .f32 c]) ∧ IsSp a b c (meanQ (rdQ1 ps fs i))) ∧ Below W.heap.size W w') := Lib.hid fun W hW => by
              have hr := HR6.out.below hW HR6.out.lt
              have e : rdQ1 ps fs i = qsOf MD FL := by rw [HMDE.out, HFLE.out]; rfl
              rw [e]
              have hm := meanOf b (b + 1) (some ⟨b, 0, none⟩) cap (qsOf MD FL) (by rw [HQL.out]; omega) W (ORow.spots (by rw [HQL.out]; exact hr) HSQ.out) (by have := hr.lt; omega)
              rw [HQL.out] at hm
              exact hm
            have HMN2 : Hid (∀ W, Below wr.heap.size wr W → Calls Try.prog 58 #[.slice (some ⟨b9, 0, none⟩) QL.length cap9] W fun e w' => (∃ a b c, e = .returned (.agg #[.float .f32 a, .float .f32 b, .float .f32 c]) ∧ IsSp a b c (meanQ (rdQ2 ps fs i))) ∧ Below W.heap.size W w') := Lib.hid fun W hW => by
              have hr := HRK.out.below hW hrk
              rw [← HQ2E.out]
              have hm := meanOf b9 (b9 + 1) (some ⟨b9, 0, none⟩) cap9 Q2 (by rw [HQ2L.out]; omega) W (ORow.spots (by rw [HQ2L.out]; exact hr) hsk) (by have := hr.lt; omega)
              rw [HQ2L.out] at hm
              exact hm
            have hP1K := HCK.out.own HP17.out (by omega)
            have f1a := hP1K.free 0
            have f1b := hP1K.free 1
            have f1c := hP1K.free 2
            have p1a := hP1K.cell 0
            have p1b := hP1K.cell 1
            have p1c := hP1K.cell 2
            have HP1K := Lib.hid hP1K
            simp at p1a p1b p1c
            have HCN : Hid (rdC fs i = cntF FL.length) := Lib.hid (by unfold rdC; rw [HFLE.out])
            clear hsk hP1K HRK HSK HCK HBK HR6 HRQ7 p0
            go_wp2_with fail
            have hcN : isN .f32 (floatOfInt .f32 (FL.length : Int)) = true := (Q.ofInt .f32 (FL.length : Int) (lt24 (by omega))).num
            have hcR : R .f32 (floatOfInt .f32 (FL.length : Int)) = ((FL.length : Int) : Rat) := by
              rw [(Q.ofInt .f32 (FL.length : Int) (lt24 (by omega))).R]; show (((FL.length : Int) : Rat)) / 1 = _; grind
            have hcb : (((FL.length : Int) : Rat)) ≤ 256 := by
              have := Rat.intCast_le_intCast.2 (show (FL.length : Int) ≤ 256 by omega)
              exact this
            have hcz : (0 : Rat) ≤ (((FL.length : Int) : Rat)) := Rat.intCast_nonneg.2 (Int.natCast_nonneg _)
            have h3N : isN .f32 1077936128 = true ∧ R .f32 1077936128 = 3 := by
              have q : Q .f32 1077936128 3 0 := ⟨by decide +kernel, by decide +kernel, by decide⟩
              exact ⟨q.num, by rw [q.R]; decide +kernel⟩
            have hsb := (rnd_sub hcN h3N.1 (by rw [hcR, h3N.2]; grind) (by rw [hcR, h3N.2]; grind)).num
            obtain ⟨ms, ds⟩ := run_fopN (op := .sub) hsb
            have dz : ∀ w : World, w.drewN 0 = w := World.drewN_zero
            have HCN2 : Hid (F32 (floatOfInt .f32 (FL.length : Int)) (rdC fs i)) := Lib.hid (by rw [HCN.out]; rfl)
            have HCS : Hid (F32 (fop .sub .f32 (floatOfInt .f32 (FL.length : Int)) 1077936128) (fsub (rdC fs i) (can .f32 1077936128))) := Lib.hid (by
              have e1 : rdC fs i = floatOfInt .f32 (FL.length : Int) := by rw [HCN.out]; exact isN.canN hcN
              have e2 : can .f32 1077936128 = 1077936128 := isN.canN h3N.1
              rw [e1, e2]
              exact isN.canN hsb)
            obtain ⟨CN, hCN⟩ : ∃ c, c = floatOfInt .f32 (FL.length : Int) := ⟨_, rfl⟩
            obtain ⟨CS, hCS⟩ : ∃ c, c = fop .sub .f32 (floatOfInt .f32 (FL.length : Int)) 1077936128 := ⟨_, rfl⟩
            rw [← hCS] at ms HCS
            rw [← hCN] at ms ds HCN2 ⊢
            have HKS : Hid (∀ W, Below wr.heap.size wr W → W.cell? ⟨w.heap.size + 1 + 1, 0, none⟩ = some (.float .f32 x0) ∧ W.cell? ⟨w.heap.size + 1 + 1, 1, none⟩ = some (.float .f32 y0) ∧ W.cell? ⟨w.heap.size + 1 + 1, 2, none⟩ = some (.float .f32 z0)) := Lib.hid fun W hW => ⟨keep_cell hW p2a, keep_cell hW p2b, keep_cell hW p2c⟩
            have hBd : Below wr.heap.size wr wr.drew := below_dr (Below.refl _ _) 1
            clear hcN hcR hcb hcz h3N hsb hCN hCS
            go_region_held3 (fun W => W.cell? ⟨w.heap.size + 1 + 1, 0, none⟩ = some (.float .f32 x0) ∧ W.cell? ⟨w.heap.size + 1 + 1, 1, none⟩ = some (.float .f32 y0) ∧ W.cell? ⟨w.heap.size + 1 + 1, 2, none⟩ = some (.float .f32 z0)) (first | go_keep | exact HKS.out _ hBk) (first
              | (go_at_call 58; first
                  | ((with_reducible refine (HMN1.out _ hBd).mono ?_); rintro e v1 ⟨⟨a1, b1', c1', rfl, h1⟩, hb1⟩; have K1 := Lib.hid h1; have hBk : Below wr.heap.size wr v1 := hBd.trans hb1; clear h1 hb1)
                  | ((with_reducible refine (HMN1.out _ hBk).mono ?_); rintro e v1 ⟨⟨a1, b1', c1', rfl, h1⟩, hb1⟩; have K1 := Lib.hid h1; replace hBk := hBk.trans (hb1.mono hBk.size); clear h1 hb1)
                  | ((with_reducible refine (HMN2.out _ hBd).mono ?_); rintro e v2 ⟨⟨a2, b2', c2', rfl, h1⟩, hb1⟩; have K2 := Lib.hid h1; have hBk : Below wr.heap.size wr v2 := hBd.trans hb1; clear h1 hb1)
                  | ((with_reducible refine (HMN2.out _ hBk).mono ?_); rintro e v2 ⟨⟨a2, b2', c2', rfl, h1⟩, hb1⟩; have K2 := Lib.hid h1; replace hBk := hBk.trans (hb1.mono hBk.size); clear h1 hb1))
              | (go_at_call 32; first
                  | ((with_reducible refine (timesB a2 b2' c2' 1073741824 _ _ K2.out (F32.mk _) _).mono ?_); rintro e v3 ⟨⟨a3, b3', c3', rfl, h1⟩, hb1⟩; have K3 := Lib.hid h1; replace hBk := hBk.trans (hb1.mono hBk.size); clear h1 hb1)
                  | ((with_reducible refine (timesB x0 y0 z0 CS _ _ HPI.out HCS.out _).mono ?_); rintro e v5 ⟨⟨a5, b5', c5', rfl, h1⟩, hb1⟩; have K5 := Lib.hid h1; first | (replace hBk := hBk.trans (hb1.mono hBk.size); clear h1 hb1) | (have hBk : Below wr.heap.size wr v5 := hBd.trans hb1; clear h1 hb1)))
              | (go_at_call 30; first
                  | ((with_reducible refine (addB a1 b1' c1' a3 b3' c3' _ _ K1.out K3.out _).mono ?_); rintro e v4 ⟨⟨a4, b4', c4', rfl, h1⟩, hb1⟩; have K4 := Lib.hid h1; replace hBk := hBk.trans (hb1.mono hBk.size); clear h1 hb1)
                  | ((with_reducible refine (addB a4 b4' c4' a5 b5' c5' _ _ K4.out K5.out _).mono ?_); rintro e v6 ⟨⟨a6, b6', c6', rfl, h1⟩, hb1⟩; have K6 := Lib.hid h1; replace hBk := hBk.trans (hb1.mono hBk.size); clear h1 hb1))
              | (go_at_call 73; (with_reducible refine (byB a6 b6' c6' CN _ _ K6.out HCN2.out _).mono ?_); rintro e v7 ⟨⟨a7, b7', c7', rfl, h1⟩, hb1⟩; have K7 := Lib.hid h1; replace hBk := hBk.trans (hb1.mono hBk.size); have hO7 := HP1K.out.below hBk HP1K.out.lt; clear f1a f1b f1c p1a p1b p1c; have f1a := hO7.free 0; have f1b := hO7.free 1; have f1c := hO7.free 2; have p1a := hO7.cell 0; have p1b := hO7.cell 1; have p1c := hO7.cell 2; simp at p1a p1b p1c; have HO7 := Lib.hid hO7; have HBF := Lib.hid (HBW.out.trans (hBk.mono HBW.out.size)); clear h1 hb1 hO7))
            all_goals
              go_wp2_with fail
              refine bodyPost_ret (v := .agg #[.float .f32 a7, .float .f32 b7', .float .f32 c7']) (by simp [results, Try.results29, go_sem, *]) rfl ?_
              exact ⟨⟨_, _, _, rfl, by rw [HV.out]; exact K7.out⟩, ((HBF.out.setCell (by simp) _).setCell (by simp) _).setCell (by simp) _⟩
  · have hz1 : (0 : Int) < (LB.length : Int) := by omega
    by_cases h2 : LB.length = 2
    · have h2' : (LB.length : Int) = 2 := by omega
      have HV : Hid (rdP ps fs i = spAdd (spMul (pAt ps i) (can .f32 1061158912)) (spMul (spAdd (pAt ps (iAt LB 0).toNat) (pAt ps (iAt LB 1).toNat)) (can .f32 1040187392))) := Lib.hid (by unfold rdP; rw [← HLB.out, if_neg hz, if_pos h2])
      have hli := HR1.out.ints rfl
      obtain ⟨b2', o2', e2', _, _, hc2⟩ := hli (by omega)
      cases e2'
      have e1 := hc2 0 (by omega)
      have e2 := hc2 1 (by omega)
      obtain ⟨u1, sb1, so1, x1, y1, z1, hv1, hvl1, hsa1, _, _, d1, d2, d3, q1⟩ := cornAt HSW.out HIN1.out (show 0 < LB.length by omega)
      obtain ⟨u2, sb2, so2, x2, y2, z2, hv2, hvl2, hsa2, _, _, g1, g2, g3, q2⟩ := cornAt HSW.out HIN1.out (show 1 < LB.length by omega)
      cases hsa1
      cases hsa2
      rw [hv1, Nat.zero_add] at e1
      rw [hv2, Nat.zero_add] at e2
      have HPA : Hid (IsSp x1 y1 z1 (pAt ps (iAt LB 0).toNat)) := Lib.hid q1
      have HPB : Hid (IsSp x2 y2 z2 (pAt ps (iAt LB 1).toNat)) := Lib.hid q2
      have v0 : (0 : Int) ≤ (u1 : Int) := by omega
      have v1 : (u1 : Int) < (ps.length : Int) := by omega
      have v2 : (0 : Int) ≤ (u2 : Int) := by omega
      have v3 : (u2 : Int) < (ps.length : Int) := by omega
      have HKS : Hid (∀ W, Below w3.heap.size w3 W → W.cell? ⟨w.heap.size, 0, none⟩ = some (.slice (some ⟨sb, so, none⟩) ps.length sc) ∧ W.cell? ⟨w.heap.size + 1 + 1, 0, none⟩ = some (.float .f32 x0) ∧ W.cell? ⟨w.heap.size + 1 + 1, 1, none⟩ = some (.float .f32 y0) ∧ W.cell? ⟨w.heap.size + 1 + 1, 2, none⟩ = some (.float .f32 z0) ∧ W.cell? ⟨b1, 0, none⟩ = some (.int .i64 (u1 : Nat)) ∧ W.cell? ⟨b1, 1, none⟩ = some (.int .i64 (u2 : Nat)) ∧ W.cell? ⟨sb, so + u1 * 3, none⟩ = some (.float .f32 x1) ∧ W.cell? ⟨sb, so + u1 * 3 + 1, none⟩ = some (.float .f32 y1) ∧ W.cell? ⟨sb, so + u1 * 3 + 2, none⟩ = some (.float .f32 z1) ∧ W.cell? ⟨sb, so + u2 * 3, none⟩ = some (.float .f32 x2) ∧ W.cell? ⟨sb, so + u2 * 3 + 1, none⟩ = some (.float .f32 y2) ∧ W.cell? ⟨sb, so + u2 * 3 + 2, none⟩ = some (.float .f32 z2)) := Lib.hid fun W hW =>
        ⟨keep_cell hW q0, keep_cell hW q2a, keep_cell hW q2b, keep_cell hW q2c, keep_cell hW e1, keep_cell hW e2, keep_cell hW d1, keep_cell hW d2, keep_cell hW d3, keep_cell hW g1, keep_cell hW g2, keep_cell hW g3⟩
      have hBd : Below w3.heap.size w3 w3.drew := below_dr (Below.refl _ _) 1
      have n1 : ¬ sb = w.heap.size + 1 := by omega
      have n2 : ¬ b1 = w.heap.size + 1 := by omega
      clear hz h2 hc2 hli q1 q2 hv1 hv2
      go_wp2_with fail
      go_region_held3 (fun W => W.cell? ⟨w.heap.size, 0, none⟩ = some (.slice (some ⟨sb, so, none⟩) ps.length sc) ∧ W.cell? ⟨w.heap.size + 1 + 1, 0, none⟩ = some (.float .f32 x0) ∧ W.cell? ⟨w.heap.size + 1 + 1, 1, none⟩ = some (.float .f32 y0) ∧ W.cell? ⟨w.heap.size + 1 + 1, 2, none⟩ = some (.float .f32 z0) ∧ W.cell? ⟨b1, 0, none⟩ = some (.int .i64 (u1 : Nat)) ∧ W.cell? ⟨b1, 1, none⟩ = some (.int .i64 (u2 : Nat)) ∧ W.cell? ⟨sb, so + u1 * 3, none⟩ = some (.float .f32 x1) ∧ W.cell? ⟨sb, so + u1 * 3 + 1, none⟩ = some (.float .f32 y1) ∧ W.cell? ⟨sb, so + u1 * 3 + 2, none⟩ = some (.float .f32 z1) ∧ W.cell? ⟨sb, so + u2 * 3, none⟩ = some (.float .f32 x2) ∧ W.cell? ⟨sb, so + u2 * 3 + 1, none⟩ = some (.float .f32 y2) ∧ W.cell? ⟨sb, so + u2 * 3 + 2, none⟩ = some (.float .f32 z2)) (first | exact HKS.out _ hBk | exact ⟨keep_set3 (by omega) (HKS.out _ hBk).1, keep_set3 (by omega) (HKS.out _ hBk).2.1, keep_set3 (by omega) (HKS.out _ hBk).2.2.1, keep_set3 (by omega) (HKS.out _ hBk).2.2.2.1, keep_set3 (by omega) (HKS.out _ hBk).2.2.2.2.1, keep_set3 (by omega) (HKS.out _ hBk).2.2.2.2.2.1, keep_set3 (by omega) (HKS.out _ hBk).2.2.2.2.2.2.1, keep_set3 (by omega) (HKS.out _ hBk).2.2.2.2.2.2.2.1, keep_set3 (by omega) (HKS.out _ hBk).2.2.2.2.2.2.2.2.1, keep_set3 (by omega) (HKS.out _ hBk).2.2.2.2.2.2.2.2.2.1, keep_set3 (by omega) (HKS.out _ hBk).2.2.2.2.2.2.2.2.2.2.1, keep_set3 (by omega) (HKS.out _ hBk).2.2.2.2.2.2.2.2.2.2.2⟩ | go_keep) (first
        | (go_at_call 32; first
            | ((with_reducible refine (timesB x0 y0 z0 1061158912 _ _ HPI.out (F32.mk _) _).mono ?_); rintro e v5 ⟨⟨a5, b5', c5', rfl, h1⟩, hb1⟩; have K5 := Lib.hid h1; first | (replace hBk := hBk.trans (hb1.mono hBk.size); clear h1 hb1) | (have hBk : Below w3.heap.size w3 v5 := hBd.trans hb1; clear h1 hb1))
            | ((with_reducible refine (timesB a2 b2'' c2'' 1040187392 _ _ K2.out (F32.mk _) _).mono ?_); rintro e v3 ⟨⟨a3, b3', c3', rfl, h1⟩, hb1⟩; have K3 := Lib.hid h1; replace hBk := hBk.trans (hb1.mono hBk.size); clear h1 hb1))
        | (go_at_call 30; first
            | ((with_reducible refine (addB x1 y1 z1 x2 y2 z2 _ _ HPA.out HPB.out _).mono ?_); rintro e v2 ⟨⟨a2, b2'', c2'', rfl, h1⟩, hb1⟩; have K2 := Lib.hid h1; first | (replace hBk := hBk.trans (hb1.mono hBk.size); clear h1 hb1) | (have hBk : Below w3.heap.size w3 v2 := hBd.trans hb1; clear h1 hb1))
            | ((with_reducible refine (addB a5 b5' c5' a3 b3' c3' _ _ K5.out K3.out _).mono ?_); rintro e v7 ⟨⟨a7, b7', c7', rfl, h1⟩, hb1⟩; have K7 := Lib.hid h1; replace hBk := hBk.trans (hb1.mono hBk.size); have hO7 := HQ1.out.below hBk HQ1.out.lt; clear q1a q1b q1c q1d q1e q1f; have f1a := hO7.free 0; have f1b := hO7.free 1; have f1c := hO7.free 2; have p1a := hO7.cell 0; have p1b := hO7.cell 1; have p1c := hO7.cell 2; simp at p1a p1b p1c; have HO7 := Lib.hid hO7; have HBF := Lib.hid (HB3.out.trans (hBk.mono HB3.out.size)); clear h1 hb1 hO7)))
      all_goals
        go_wp2_with fail
        refine bodyPost_ret (v := .agg #[.float .f32 a7, .float .f32 b7', .float .f32 c7']) (by simp [results, Try.results29, go_sem, *]) rfl ?_
        exact ⟨⟨_, _, _, rfl, by rw [HV.out]; exact K7.out⟩, ((HBF.out.setCell (by simp) _).setCell (by simp) _).setCell (by simp) _⟩
    · have h2' : ¬ (LB.length : Int) = 2 := by omega
      have HV : Hid (rdP ps fs i = pAt ps i) := Lib.hid (by unfold rdP; rw [← HLB.out, if_neg hz, if_neg h2])
      clear hz h2
      go_wp2_with fail
      refine bodyPost_ret (v := .agg #[.float .f32 x0, .float .f32 y0, .float .f32 z0]) (by simp [results, Try.results29, go_sem, *]) rfl ?_
      exact ⟨⟨_, _, _, rfl, by rw [HV.out]; exact HPI.out⟩, ((HB3.out.setCell (by simp) _).setCell (by simp) _).setCell (by simp) _⟩
end Go.Proofs.Ytkjljajjjhfklaa

/- Contract: EaseNet, the program's. -/
import Derived.Test.YtkjljajjjhfklaaNj21
namespace Go.Proofs.Ytkjljajjjhfklaa
open Go.RowKit Go.Fl

/-- the first j spots of the net that is eased -/
def ezT (ps : List Sp) (fs : List (List Int)) (t j : Nat) : List Sp := (List.range j).map (ezP ps fs t)
theorem ezT_len (ps : List Sp) (fs : List (List Int)) (t j : Nat) : (ezT ps fs t j).length = j := by simp [ezT]
theorem ezT_succ (ps : List Sp) (fs : List (List Int)) (t j : Nat) : ezT ps fs t (j + 1) = ezT ps fs t j ++ [ezP ps fs t j] := by simp [ezT, List.range_succ]
/-- where the program's walk stands -/
def EzI (wb wr : World) (ob : Nat) (hd : Value) (ps : List Sp) (fs : List (List Int)) (t j : Nat) : Prop :=
  ∃ v cs, ORow0 wr 46 3 v j cs ∧ SpL cs (ezT ps fs t j) ∧ (∀ b, v.ownBlock = some b → wb.heap.size ≤ b) ∧ OwnC wr ob #[v, hd] 27 ∧ Ch (fun c => c = ob) wb wr
theorem EzI.step {wb wr w6 w7 : World} {ob : Nat} {hd : Value} {ps : List Sp} {fs : List (List Int)} {t j : Nat} {v : Value} {cs : List Value} {x y z b7 c7 : Nat} (hrow : ORow0 wr 46 3 v j cs) (hsp : SpL cs (ezT ps fs t j))
    (hvb : ∀ b, v.ownBlock = some b → wb.heap.size ≤ b) (hown : OwnC wr ob #[v, hd] 27) (hch : Ch (fun c => c = ob) wb wr) (hob : ob < wb.heap.size) (h6 : Below wr.heap.size wr w6) (hq : IsSp x y z (ezP ps fs t j))
    (hg7 : (w6.alloc (.cells #[.float .f32 x, .float .f32 y, .float .f32 z] 46)).grownBy w7 v.ownBlock)
    (r7 : ORow w7 46 3 b7 c7 (j + 1) (cs ++ [.float .f32 x, .float .f32 y, .float .f32 z])) (hb7 : v.ownBlock = some b7 ∨ b7 = w6.heap.size + 1) :
    EzI wb (w7.setCell ⟨ob, 0, none⟩ (.slice (some ⟨b7, 0, none⟩) (j + 1) c7)) ob hd ps fs t (j + 1) := by
  have z5 := hch.size
  have z6 := h6.size
  have z7 : w6.heap.size + 1 ≤ w7.heap.size := by have := hg7.size; simpa using this
  have hbo : wb.heap.size ≤ b7 := by
    rcases hb7 with h | h
    · exact hvb _ h
    · omega
  have hcl : cs.length = j * 3 := hrow.1
  have hne : ∀ c, c < w6.heap.size → v.ownBlock ≠ some c → w7.heap[c]? = w6.heap[c]? := fun c hc hv => (hg7.block c (by simp; omega) (fun e => hv e.symm)).trans (Below.heap_alloc _ _ _ hc)
  have hvo : v.ownBlock ≠ some ob := fun e => by have := hvb _ e; omega
  have hown7 : OwnC w7 ob #[v, hd] 27 := (hne ob (by omega) hvo).trans (hown.below h6 (by omega))
  refine ⟨.slice (some ⟨b7, 0, none⟩) (j + 1) c7, _, ORow0.set r7.row0 _ _ _ (by simp [Value.ownBlock]; omega), ?_, fun b e => ?_, (hown7.set 0 _).congr rfl, ?_⟩
  · rw [ezT_succ]
    exact hsp.snoc (by rw [hcl, ezT_len]) hq
  · simp [Value.ownBlock] at e; omega
  · have c1 : Ch (fun c => c = ob) wb w6 := hch.trans (P' := fun _ => False) (Ch.below h6) (fun b hb => hb.elim)
    have c2 : Ch (fun c => v.ownBlock = some c) w6 w7 := ⟨hg7.os, hg7.tape, hg7.output, by omega, hne⟩
    have c3 : Ch (fun c => c = ob) wb w7 := c1.trans c2 (fun b hb => .inr (hvb b hb))
    exact c3.trans (P' := fun c => c = ob) (Ch.set _ _ _ rfl) (fun b hb => .inl hb)
/-- an append onto a row that may be nothing yet -/
theorem wpList_app0 {P : Program} {ops : Array Oper} {rest : List Oper} {o : Oper} {a : Act} {Q : Exit → Act → World → Prop} (hgd : o.guard = none) (s x : Operand) (t : TypeId)
    (ho : o.op = .call { callee := .builtin .append, args := #[s, x], argTypes := #[t, t] })
    (e : TypeId) (z : Value) (size bytes : Nat) (ht : P.underlying t = some (.slice e)) (hinfo : (P.info? e).map (fun i => (i.zero, i.size, i.bytes)) = some (some z, size, bytes)) (hzs : z.cells.size = size) (hsz : 0 < size)
    (w0 : World) (v : Value) (n : Nat) (cs : List Value) (hs : a.eval s = v) (hrow : ORow0 w0 e size v n cs)
    (ad : Addr) (m c : Nat) (news : List Value) (hx : a.eval x = .slice (some ad) m c) (hl : news.length = m * size) (hnews : ∀ j u, news[j]? = some u → w0.cell? (ad.add j) = some u) (h1 : ∀ u ∈ news, u.oneCell' = true)
    (hm : 0 < m) (hmn : n + m ≤ 1099511627776) (hby : bytes ≤ 64)
    (h : ∀ b' cap' w1, ORow w1 e size b' cap' (n + m) (cs ++ news) → (v.ownBlock = some b' ∨ b' = w0.heap.size) → b' < w1.heap.size → w0.grownBy w1 v.ownBlock → wpList P ops Q rest (a.put o.dst (.slice (some ⟨b', 0, none⟩) (n + m) cap')) w1) :
    wpList P ops Q (o :: rest) a w0 := by
  obtain ⟨i, hi, hzz⟩ := Option.map_eq_some_iff.1 hinfo
  simp only [Prod.mk.injEq] at hzz
  obtain ⟨hz, hs1, hb1⟩ := hzz
  exact wpList_append_lies w0 hgd s x t ho 0 e i z size bytes ht hi hz hs1 hb1 hzs hsz v n cs hs hrow ad m c news hx hl hnews h1 hm (by simp [maxLen]; omega)
    (Nat.le_trans (Nat.mul_le_mul_left (n + m) hby) (by omega)) (Nat.zero_le _) w0.heap.size rfl
    (fun g cap1 w1 hown hgrow hat hlt => h g cap1 w1 (ownsRow.orow hown) hat hlt hgrow)
theorem lessBB (x y z x' y' z' : Nat) (p q : Sp) (hp : IsSp x y z p) (hq : IsSp x' y' z' q) (w : World) :
    Calls Try.prog 44 #[.agg #[.float .f32 x, .float .f32 y, .float .f32 z], .agg #[.float .f32 x', .float .f32 y', .float .f32 z']] w fun e w' => (∃ a b c, e = .returned (.agg #[.float .f32 a, .float .f32 b, .float .f32 c]) ∧ IsSp a b c (spSub p q)) ∧ Below w.heap.size w w' := implLess x y z x' y' z' p q hp hq w
theorem timesB (x y z b t : Nat) (p : Sp) (hp : IsSp x y z p) (hb : F32 b t) (w : World) :
    Calls Try.prog 32 #[.agg #[.float .f32 x, .float .f32 y, .float .f32 z], .float .f32 b] w fun e w' => (∃ a b c, e = .returned (.agg #[.float .f32 a, .float .f32 b, .float .f32 c]) ∧ IsSp a b c (spMul p t)) ∧ Below w.heap.size w w' := implTimes x y z b t p hp hb w

set_option maxHeartbeats 2000000 in
set_option maxRecDepth 100000 in
theorem easeB (lo hi : Nat) (sa fa : Option Addr) (sc fc : Nat) (ps : List Sp) (fs : List (List Int)) (sh : Nat) (hp : ps.length ≤ 1048576) (hn : fs.length ≤ 1048576) (hsh : ∀ i, i < fs.length → (fAt fs i).length ≤ 1048576) (w : World)
    (hs : NetAt w lo hi sa fa ps fs) (hca : SlC w lo hi fa fs) (hh : hi ≤ w.heap.size) :
    Calls Try.prog 17 #[netV sa fa ps.length sc fs.length fc, .float .f32 sh] w (RetN (ezRP ps fs (can .f32 sh)) (ezRF ps fs (can .f32 sh)) (ezO ps fs (can .f32 sh)) w) := by
  have hA : Far lo hi w ((w.alloc (.cells #[.slice sa ps.length sc, .slice fa fs.length fc] 27)).alloc (.cells #[.slice none 0 0, .slice none 0 0] 27)) := ((Far.refl _ _ _).alloc _ hh).alloc _ (by simp; omega)
  have A0 : OwnC ((w.alloc (.cells #[.slice sa ps.length sc, .slice fa fs.length fc] 27)).alloc (.cells #[.slice none 0 0, .slice none 0 0] 27)) w.heap.size #[.slice sa ps.length sc, .slice fa fs.length fc] 27 := (OwnC.new rfl).alloc _
  have R0 : OwnC ((w.alloc (.cells #[.slice sa ps.length sc, .slice fa fs.length fc] 27)).alloc (.cells #[.slice none 0 0, .slice none 0 0] 27)) (w.heap.size + 1) #[.slice none 0 0, .slice none 0 0] 27 := OwnC.new (by simp)
  have HBA : Hid (Below w.heap.size w ((w.alloc (.cells #[.slice sa ps.length sc, .slice fa fs.length fc] 27)).alloc (.cells #[.slice none 0 0, .slice none 0 0] 27))) := by
    show Below _ _ _
    (repeat (first | exact Below.refl _ _ | assumption | refine below_dr ?_ _ | refine Below.alloc ?_ (by first | omega | (simp; done) | (simp; omega)) _ | refine Below.setCell ?_ (by first | omega | (simp; done) | (simp; omega)) _ | refine Below.trans ?_ (Below.mono (by assumption) (by first | omega | (simp; done) | (simp; omega)))))
  have IS := Lib.hid (validNet lo hi sa fa sc fc ps fs hp hn hsh _ (hs.far hA) (hca.far hA) (by simp; omega))
  have HS := Lib.hid (hs.far hA)
  have HSH := Lib.hid hsh
  have HA0 := Lib.hid A0
  have HR0 := Lib.hid R0
  clear hs hsh A0 R0 hA hca
  unfold netV at *
  cases hv : okN ps fs
  · have HV : Hid (dec (OkNet ps fs (colA fs) (colB fs)) = false) := Lib.hid hv
    have HC : Hid (ezO ps fs (can .f32 sh) = false) := Lib.hid (by simp [ezO, hv])
    clear hv
    go_enter Try.func17, Try.ntmps17
    go_wp2_with (go_at_call 26; refine IS.out.mono ?_; rintro e w3 ⟨rfl, hb3⟩; rw [HV.out]; have R3 := HR0.out.below hb3 (by simp); have r0 := R3.cell 0; have r1 := R3.cell 1; have g0 := R3.free 0; have g1 := R3.free 1; simp at r0 r1)
    have R := (R3.set 0 (.slice none 0 0)).set 1 (.slice none 0 0)
    have q0 := R.cell 0
    have q1 := R.cell 1
    simp at q0 q1
    refine bodyPost_ret (v := .tuple #[.agg #[.slice none 0 0, .slice none 0 0], .bool false]) (by simp [results, Try.results17, go_sem, *]) rfl ?_
    exact RetN.noE HC.out (((HBA.out.trans (hb3.mono (by simp; omega))).setCell (p := ⟨w.heap.size + 1, 0, none⟩) (by simp) (.slice none 0 0)).setCell (p := ⟨w.heap.size + 1, 1, none⟩) (by simp) (.slice none 0 0))
  have HV : Hid (dec (OkNet ps fs (colA fs) (colB fs)) = true) := Lib.hid hv
  have HOKN := Lib.hid (okN_net hv)
  cases ht : in01 (can .f32 sh)
  · have HT := Lib.hid ht
    have HC : Hid (ezO ps fs (can .f32 sh) = false) := Lib.hid (by simp [ezO, ht])
    clear hv ht
    go_enter Try.func17, Try.ntmps17
    go_wp2_with (first
      | (go_at_call 26; refine IS.out.mono ?_; rintro e w3 ⟨rfl, hb3⟩; rw [HV.out]; have R3 := Lib.hid (HR0.out.below hb3 (by simp)); have HB3 := Lib.hid (HBA.out.trans (hb3.mono (by simp; omega))); clear hb3)
      | (go_at_call 55; refine (timeB sh _).mono ?_; rintro e w4 ⟨rfl, n, rfl⟩; rw [HT.out]; have R4 := R3.out.drewN n; have r0 := R4.cell 0; have r1 := R4.cell 1; have g0 := R4.free 0; have g1 := R4.free 1; simp at r0 r1 g0 g1))
    have R := (R4.set 0 (.slice none 0 0)).set 1 (.slice none 0 0)
    have q0 := R.cell 0
    have q1 := R.cell 1
    simp at q0 q1
    refine bodyPost_ret (v := .tuple #[.agg #[.slice none 0 0, .slice none 0 0], .bool false]) (by simp [results, Try.results17, go_sem, *]) rfl ?_
    exact RetN.noE HC.out (by have := ((HB3.out.setCell (p := ⟨w.heap.size + 1, 0, none⟩) (by simp) (.slice none 0 0)).setCell (p := ⟨w.heap.size + 1, 1, none⟩) (by simp) (.slice none 0 0)); first | exact below_dr this _ | exact ((below_dr HB3.out n).setCell (p := ⟨w.heap.size + 1, 0, none⟩) (by simp) (.slice none 0 0)).setCell (p := ⟨w.heap.size + 1, 1, none⟩) (by simp) (.slice none 0 0))
  have HT := Lib.hid ht
  have HOK := Lib.hid (OkNet.sideOk HOKN.out)
  have hp0 : 0 < ps.length := by have := HOKN.out.n3; omega
  have hn0 : 0 < fs.length := by have := HOKN.out.f1; omega
  have H1 : Hid (∀ i, i < fs.length → 0 < (fAt fs i).length) := Lib.hid fun i h => by have := (HOKN.out.facets i h).1; omega
  have HO1 : Hid (ezO ps fs (can .f32 sh) = okN (ezL ps fs (can .f32 sh)) fs) := Lib.hid (by simp [ezO, hv, ht])
  clear hv ht
  go_enter Try.func17, Try.ntmps17
  go_wp2_with (first
    | (go_at_call 26; refine IS.out.mono ?_; rintro e w3 ⟨rfl, hb3⟩; rw [HV.out]; have HB3 := Lib.hid (HBA.out.trans (hb3.mono (by simp; omega))); have HA3 := Lib.hid (HA0.out.below hb3 (by simp; omega)); have HR3 := Lib.hid (HR0.out.below hb3 (by simp)); have HS3 := Lib.hid (HS.out.far (Far.below hb3 (by simp; omega))); have z3 : w.heap.size + 1 + 1 ≤ w3.heap.size := (by have := hb3.size; simpa using this); clear hb3)
    | (go_at_call 55; refine (timeB sh w3).mono ?_; rintro e w4 ⟨rfl, n, hw4⟩; rw [HT.out]; have hb4 : Below w3.heap.size w3 w4 := (by rw [hw4]; exact below_dr (Below.refl _ _) n); have z4 := hb4.size; have HB4 := Lib.hid (HB3.out.trans (hb4.mono (by omega))); have HA4 := Lib.hid (HA3.out.below hb4 (by omega)); have HR4 := Lib.hid (HR3.out.below hb4 (by omega)); have HS4 := Lib.hid (HS3.out.far (Far.below hb4 (by omega))); have a40 := HA4.out.cell 0; have a41 := HA4.out.cell 1; simp at a40 a41; clear hb4 hw4)
    | (go_at_call 27; refine (edgesI lo hi sa fa ps.length sc fc fs hn HSH.out HOK.out w4 HS4.out.facets (by omega)).mono ?_; rintro e w5 ⟨eb, ec, rfl, hE, hEb, hb5⟩; have z5 := hb5.size; have HB5 := Lib.hid (HB4.out.trans (hb5.mono (by omega))); have HA5 := Lib.hid (HA4.out.below hb5 (by omega)); have HR5 := Lib.hid (HR4.out.below hb5 (by omega)); have HS5 := Lib.hid (HS4.out.far (Far.below hb5 (by omega))); have HE5 := Lib.hid hE; have hEl := hE.lt; clear a40 a41; have a40 := HA5.out.cell 0; have a41 := HA5.out.cell 1; simp at a40 a41; clear hE hb5)
    | (go_at_call 35; refine (copyFacets lo hi fa fc fs hn HSH.out H1.out w5 HS5.out.facets (by omega)).mono ?_; rintro e w7 ⟨⟨bf, c2, g, rfl, hF⟩, hb7⟩; have z7 := hb7.size; have HB7 := Lib.hid (HB5.out.trans (hb7.mono (by omega))); have HA7 := Lib.hid (HA5.out.below hb7 (by omega)); have HR7 := Lib.hid (HR5.out.below hb7 (by omega)); have HS7 := Lib.hid (HS5.out.far (Far.below hb7 (by omega))); have HE7 := Lib.hid (HE5.out.below hb7 hEl); have HF7 := Lib.hid hF; clear a40 a41; have a40 := HA7.out.cell 0; have a41 := HA7.out.cell 1; simp at a40 a41; have HX7 := Lib.hid (keep_alloc (.cells #[.slice none 0 0, .slice (some ⟨bf, 0, none⟩) fs.length c2] 27) a40); have a42 := HX7.out; clear hF hb7))
  have hO : OwnC (w7.alloc (.cells #[.slice none 0 0, .slice (some ⟨bf, 0, none⟩) fs.length c2] 27)) w7.heap.size #[.slice none 0 0, .slice (some ⟨bf, 0, none⟩) fs.length c2] 27 := OwnC.new rfl
  have hB : Below w7.heap.size w7 (w7.alloc (.cells #[.slice none 0 0, .slice (some ⟨bf, 0, none⟩) fs.length c2] 27)) := Below.alloc (Below.refl _ _) (Nat.le_refl _) _
  have z8 : (w7.alloc (.cells #[.slice none 0 0, .slice (some ⟨bf, 0, none⟩) fs.length c2] 27)).heap.size = w7.heap.size + 1 := by simp
  clear a40 a41 a42 HX7
  generalize w7.alloc (.cells #[.slice none 0 0, .slice (some ⟨bf, 0, none⟩) fs.length c2] 27) = wb at *
  have HO := Lib.hid hO
  have HB := Lib.hid (HB7.out.trans (hB.mono (by omega)))
  have HA := Lib.hid (HA7.out.below hB (by omega))
  have HR := Lib.hid (HR7.out.below hB (by omega))
  have HS := Lib.hid (HS7.out.far (Far.below hB (by omega)))
  have HE := Lib.hid (HE7.out.below hB (by omega))
  have HF := Lib.hid (HF7.out.far (Far.below hB (by omega)))
  have HER : Hid (∀ k r, k < (firsts (colA fs) (colB fs) (sumTo fs fs.length)).length → r < 4 → wb.cell? ⟨eb, k * 4 + r, none⟩ = some (.int .i64 (edP (colA fs) (colB fs) (colF fs) (sumTo fs fs.length) ((firsts (colA fs) (colB fs) (sumTo fs fs.length)).getD k 0) r))) := Lib.hid fun k r h1 h2 => edRow HE.out h1 r h2
  have hfl : (firsts (colA fs) (colB fs) (sumTo fs fs.length)).length ≤ 1048576 := by have := firsts_lenA fs; have := OkNet.sum HOKN.out; omega
  clear hO hB HB7 HA7 HR7 HS7 HE7 HF7 HB3 HB4 HB5 HA3 HA4 HA5 HR3 HR4 HR5 HS3 HS4 HS5 HE5 HBA HA0 HR0 IS
  have HI0 : Hid (EzI wb wb w7.heap.size (.slice (some ⟨bf, 0, none⟩) fs.length c2) ps fs (can .f32 sh) 0) := Lib.hid ⟨.slice none 0 0, [], ORow0.nil _ _ _, by simpa [ezT] using SpL.nil, (fun b e => by cases e), HO.out, Ch.refl _ _⟩
  have hobd : Hid (w7.heap.size = w7.heap.size) := Lib.hid rfl
  generalize hob7 : w7.heap.size = ob at *
  have HOB7 := Lib.hid hob7
  clear hob7 hobd
  go_loopw [31] (fun i wr => ∃ j : Nat, j ≤ ps.length ∧ i = .int .i64 j ∧ Hid (EzI wb wr ob (.slice (some ⟨bf, 0, none⟩) fs.length c2) ps fs (can .f32 sh) j)) (fun i _ => ps.length - (intOf i).toNat)
  case atStart => exact ⟨0, by omega, rfl, HI0⟩
  case round =>
    clear HI0
    obtain ⟨j, hj, rfl, HI⟩ := hrel
    obtain ⟨v, cs, hrow, hsp, hvb, hown, hch⟩ := HI.out
    have hzr := hch.size
    have hA1 : OwnC wr w.heap.size #[.slice sa ps.length sc, .slice fa fs.length fc] 27 := hch.own HA.out (by omega)
    by_cases hlt : j < ps.length
    · have k0 : (0 : Int) ≤ (j : Int) := by omega
      have k1 : (j : Int) < (ps.length : Int) := by omega
      have hsr : NetAt wr lo hi sa fa ps fs := HS.out.far (hch.far (by omega) (fun b h1 h2 e => by omega))
      obtain ⟨sb, so, rfl, l1, l2, hcs⟩ := hsr.spots (by omega)
      obtain ⟨x0, y0, z0, s0, s1, s2, f0, f1, f2⟩ := hcs j hlt
      have HPJ := Lib.hid (IsSp.of f0 f1 f2)
      have HA1 := Lib.hid hA1
      have HSR := Lib.hid hsr
      have HROW := Lib.hid hrow
      have HSP := Lib.hid hsp
      have HVB := Lib.hid hvb
      have HOWN := Lib.hid hown
      have HCH := Lib.hid hch
      have HAL : Hid (Below wr.heap.size wr (wr.alloc (.cells #[.float .f32 x0, .float .f32 y0, .float .f32 z0] 46))) := Lib.hid (Below.alloc (Below.refl _ _) (Nat.le_refl _) _)
      have HOP : Hid (OwnC (wr.alloc (.cells #[.float .f32 x0, .float .f32 y0, .float .f32 z0] 46)) wr.heap.size #[.float .f32 x0, .float .f32 y0, .float .f32 z0] 46) := Lib.hid (OwnC.new rfl)
      have hee : ∀ k r, k < (firsts (colA fs) (colB fs) (sumTo fs fs.length)).length → r < 4 → wr.cell? ⟨eb, k * 4 + r, none⟩ = some (.int .i64 (edP (colA fs) (colB fs) (colF fs) (sumTo fs fs.length) ((firsts (colA fs) (colB fs) (sumTo fs fs.length)).getD k 0) r)) := fun k r h1 h2 => hch.cell (HER.out k r h1 h2) (by omega)
      have HEE := Lib.hid hee
      have hC1 : Calls Try.prog 56 #[.slice (some ⟨eb, 0, none⟩) (firsts (colA fs) (colB fs) (sumTo fs fs.length)).length ec, .int .i64 (j : Int), .func (.func 31) #[] #[]] (wr.alloc (.cells #[.float .f32 x0, .float .f32 y0, .float .f32 z0] 46)) fun e w' =>
          (∃ b cap, e = .returned (.slice (some ⟨b, 0, none⟩) (othBd fs (j : Int)).length cap) ∧ ORow w' 2 1 b cap (othBd fs (j : Int)).length ((othBd fs (j : Int)).map (Value.int .i64)) ∧ (wr.alloc (.cells #[.float .f32 x0, .float .f32 y0, .float .f32 z0] 46)).heap.size ≤ b) ∧ Below (wr.alloc (.cells #[.float .f32 x0, .float .f32 y0, .float .f32 z0] 46)).heap.size (wr.alloc (.cells #[.float .f32 x0, .float .f32 y0, .float .f32 z0] 46)) w' :=
        others eb (eb + 1) eb ec (sumTo fs fs.length) 31 (fun s => decide (s < 0)) (colA fs) (colB fs) (colF fs) (firsts (colA fs) (colB fs) (sumTo fs fs.length)) j hfl (Nat.le_refl _) (Nat.lt_succ_self _) _ (by simp; omega) (fun _ _ => rfl) isBorder (fun k r h1 h2 => keep_cell HAL.out (HEE.out k r h1 h2))
      have HC1 := Lib.hid hC1
      have hin := oth_in HOKN.out (j : Int)
      have HIN := Lib.hid hin
      have hla := othA_len HOKN.out (j : Int)
      clear hrow hsp hvb hown hch hA1 hsr hcs f0 f1 f2 hee hC1 hin HI
      by_cases hz : (othBd fs (j : Int)).length = 0
      · have hz1 : ((othBd fs (j : Int)).length : Int) = 0 := by omega
        have HZL := Lib.hid hz
        have HEZ : Hid (ezP ps fs (can .f32 sh) j = spAdd (pAt ps j) (spMul (spSub (meanQ (qsOf ps (othA fs (j : Int)))) (pAt ps j)) (can .f32 sh))) := Lib.hid (by unfold ezP; rw [if_pos hz])
        clear hz hz1
        generalize wr = wo at *
        generalize hpb : wo.heap.size = pb at *
        go_wp2_with (first
          | (go_at_call 56; (with_reducible refine HC1.out.mono ?_); rintro e w3 ⟨⟨b1, cap1, rfl, hr1, hbb1⟩, hb3⟩; rw [HZL.out]; have HB3 := Lib.hid (HAL.out.trans (hb3.mono (by simp; omega))); have HOP3 := Lib.hid (HOP.out.below hb3 (by simp; omega)); have hz3 : pb + 1 ≤ w3.heap.size := (by have := hb3.size; simp at this; omega); have HB3A := Lib.hid (HB3.out.alloc (by omega) (.cells #[] 46)); have HOP3A := Lib.hid (HOP3.out.alloc (.cells #[] 46)); have HRN := Lib.hid (ORow.new w3 46 3);
              have HC2 : Hid (Calls Try.prog 56 #[.slice (some ⟨eb, 0, none⟩) (firsts (colA fs) (colB fs) (sumTo fs fs.length)).length ec, .int .i64 (j : Int), .func (.func 57) #[] #[]] (w3.alloc (.cells #[] 46)) fun e w' => (∃ b cap, e = .returned (.slice (some ⟨b, 0, none⟩) (othA fs (j : Int)).length cap) ∧ ORow w' 2 1 b cap (othA fs (j : Int)).length ((othA fs (j : Int)).map (Value.int .i64)) ∧ (w3.alloc (.cells #[] 46)).heap.size ≤ b) ∧ Below (w3.alloc (.cells #[] 46)).heap.size (w3.alloc (.cells #[] 46)) w') :=
                Lib.hid (others eb (eb + 1) eb ec (sumTo fs fs.length) 57 (fun _ => true) (colA fs) (colB fs) (colF fs) (firsts (colA fs) (colB fs) (sumTo fs fs.length)) j hfl (Nat.le_refl _) (Nat.lt_succ_self _) _ (by simp; omega) (fun _ _ => rfl) anyEdge (fun k r h1 h2 => by have := HEE.out k r h1 h2; exact (HB3A.out.cell (p := ⟨eb, k * 4 + r, none⟩) (by simp; omega)).trans this)); clear hr1 hb3 hbb1)
          | (go_at_call 56; (with_reducible refine HC2.out.mono ?_); rintro e w4 ⟨⟨b2, cap2, rfl, hr2, hbb2⟩, hb4⟩; have HB4 := Lib.hid (HB3A.out.trans (hb4.mono (by simp; omega))); have HOP4 := Lib.hid (HOP3A.out.below hb4 (by simp; omega)); have HRN4 := Lib.hid (HRN.out.below hb4 (by simp)); have HR2 := Lib.hid hr2; have hz4 : w3.heap.size + 1 ≤ w4.heap.size := (by have := hb4.size; simpa using this); have hbb2' : w3.heap.size + 1 ≤ b2 := (by simpa using hbb2); clear hr2 hb4 hbb2))
        have HLI := Lib.hid (HR2.out.ints rfl)
        have hb2l := HR2.out.lt
        generalize w3.heap.size = lb at *
        clear HR2 HB3 HOP3 HB3A HOP3A HRN HC1 HC2
        generalize othA fs (j : Int) = L at *
        have HQL := Lib.hid (qsOf_len ps L)
        go_loopw [10, 46] (fun out i wq => ∃ (k b cap : Nat) (cs2 : List Value), k ≤ L.length ∧ i = .int .i64 k ∧ out = .slice (some ⟨b, 0, none⟩) k cap ∧ Hid (ORow wq 46 3 b cap k cs2) ∧ Hid (SpL cs2 ((qsOf ps L).take k)) ∧ (b = lb ∨ w4.heap.size ≤ b) ∧ Hid (Ch (fun c => c = lb) w4 wq)) (fun _ i _ => L.length - (intOf i).toNat)
        case atStart => exact ⟨0, _, _, [], by omega, rfl, rfl, HRN4, Lib.hid (by simpa using SpL.nil), .inl rfl, Lib.hid (Ch.refl _ _)⟩
        case round =>
          clear HRN4
          obtain ⟨k, b, cap, cs2, hk, rfl, rfl, HRQ, HSQ, hbl, HCQ⟩ := hrel
          have hzq := HCQ.out.size
          have HBQ : Hid (Below pb wo wr) := Lib.hid (HB4.out.trans (HCQ.out.toBelow (by omega) (fun c hc => by omega)))
          have HOQ : Hid (OwnC wr pb #[.float .f32 x0, .float .f32 y0, .float .f32 z0] 46) := Lib.hid (HCQ.out.own HOP4.out (by omega))
          have HNQ : Hid (NetAt wr lo hi (some ⟨sb, so, none⟩) fa ps fs) := Lib.hid (HSR.out.far (Far.below HBQ.out (by omega)))
          have hAQ : OwnC wr w.heap.size #[.slice (some ⟨sb, so, none⟩) ps.length sc, .slice fa fs.length fc] 27 := HA1.out.below HBQ.out (by omega)
          have p0 := hAQ.cell 0
          simp at p0
          have hrq := HRQ.out.lt
          clear hAQ
          by_cases hlt3 : k < L.length
          · obtain ⟨b2', o2', e2', _, _, hc2⟩ := HLI.out (by omega)
            cases e2'
            have e1 := HCQ.out.cell (hc2 k hlt3) (by omega)
            obtain ⟨u, sb', so', x', y', z', hv, hvl, hsa, _, _, d1, d2, d3, q1⟩ := cornAt HNQ.out.spots HIN.out hlt3
            cases hsa
            rw [hv, Nat.zero_add] at e1
            have HP := Lib.hid q1
            have HQE : Hid (pAt (qsOf ps L) k = cornP ps L k) := Lib.hid (by rw [qsOf_at hlt3]; rfl)
            have t0 : (0 : Int) ≤ (k : Int) := by omega
            have t1 : (k : Int) < (L.length : Int) := by omega
            have v0 : (0 : Int) ≤ (u : Int) := by omega
            have v1 : (u : Int) < (ps.length : Int) := by omega
            clear hc2 q1 hv
            go_wp2_with (at_builtin; refine wpList_app rfl _ _ _ rfl 46 (.agg #[.float .f32 0, .float .f32 0, .float .f32 0]) 3 12 Try.underlying24 infoSpot' rfl (by decide) _ #[.float .f32 x', .float .f32 y', .float .f32 z'] 46 rfl (by simp [Value.oneCell']) b cap _ _ rfl rfl HRQ.out (by omega) (by decide) ?_; intro b5 cap5 w5 hr5 hg5 hgr5)
            go_roundw
            case rel =>
              refine ⟨k + 1, b5, cap5, _, by omega, by go_num, rfl, Lib.hid hr5, Lib.hid ?_, by omega, Lib.hid (HCQ.out.trans (P' := fun c => c = b) (Ch.grew hgr5 rfl) (fun c hc => by subst hc; exact hbl))⟩
              rw [take_snoc (by rw [HQL.out]; exact hlt3), HQE.out]
              refine HSQ.out.snoc ?_ HP.out
              rw [HRQ.out.clen, List.length_take, HQL.out, Nat.min_eq_left hk]
            case measure => simp [intOf]; omega
          · have hkn : k = L.length := by omega
            subst hkn
            have hsq := HSQ.out
            rw [List.take_of_length_le (by rw [HQL.out]; exact Nat.le_refl _)] at hsq
            have hrow2 := HRQ.out
            rw [← HQL.out] at hrow2
            have hM := meanOf b (b + 1) (some ⟨b, 0, none⟩) cap (qsOf ps L) (by rw [HQL.out]; omega) wr.drew (ORow.spots (ORow.drewW hrow2) hsq) (by show b + 1 ≤ wr.heap.size; omega)
            rw [HQL.out] at hM
            have HM := Lib.hid hM
            have q0 := HOQ.out.cell 0
            have q1 := HOQ.out.cell 1
            have q2 := HOQ.out.cell 2
            have hpl := HOQ.out.lt
            simp at q0 q1 q2
            have HD0 : Hid (Below wr.heap.size wr wr.drew) := Lib.hid (below_dr (Below.refl _ _) 1)
            clear hsq hrow2 hM p0
            go_wp2_with fail
            go_region_law (first
              | (go_simp; go_at_call 58; (refine HM.out.mono ?_); unfold spV; rintro e w5 ⟨⟨a, b', d, rfl, hab⟩, hb5⟩; have K0 := Lib.hid hab; have B5 : Below wr.heap.size wr w5 := HD0.out.trans (hb5.mono (Nat.le_refl _)); have c50 := keep_cell B5 q0; have c51 := keep_cell B5 q1; have c52 := keep_cell B5 q2; clear hab hb5)
              | (go_simp; go_at_call 44; (refine (lessBB a b' d x0 y0 z0 _ _ K0.out HPJ.out _).mono ?_); rintro e w6 ⟨⟨a1, b1', d1, rfl, h1⟩, hb6⟩; have K1 := Lib.hid h1; have B6 : Below wr.heap.size wr w6 := B5.trans (hb6.mono B5.size); have c60 := keep_cell B6 q0; have c61 := keep_cell B6 q1; have c62 := keep_cell B6 q2; clear h1 hb6)
              | (go_simp; go_at_call 32; (refine (timesB a1 b1' d1 sh _ _ K1.out (F32.mk sh) _).mono ?_); rintro e w7' ⟨⟨a2, b2', d2, rfl, h2⟩, hb7⟩; have K2 := Lib.hid h2; have B7 : Below wr.heap.size wr w7' := B6.trans (hb7.mono B6.size); have c70 := keep_cell B7 q0; have c71 := keep_cell B7 q1; have c72 := keep_cell B7 q2; clear h2 hb7)
              | (go_simp; go_at_call 30; (refine (addB x0 y0 z0 a2 b2' d2 _ _ HPJ.out K2.out _).mono ?_); rintro e w8 ⟨⟨a3, b3, d3, rfl, h3⟩, hb8⟩; have K3 := Lib.hid h3; have B8 : Below wr.heap.size wr w8 := B7.trans (hb8.mono B7.size); have c80 := keep_cell B8 q0; have c81 := keep_cell B8 q1; have c82 := keep_cell B8 q2; have HP8 := Lib.hid (HOQ.out.below B8 hpl); have f80 := HP8.out.free 0; have f81 := HP8.out.free 1; have f82 := HP8.out.free 2; clear h3 hb8))
            all_goals
              have HQP : Hid (IsSp a3 b3 d3 (ezP ps fs (can .f32 sh) j)) := Lib.hid (by rw [HEZ.out]; exact K3.out)
              have HB9 : Hid (Below pb wo (((w8.setCell ⟨pb, 0, none⟩ (.float .f32 a3)).setCell ⟨pb, 1, none⟩ (.float .f32 b3)).setCell ⟨pb, 2, none⟩ (.float .f32 d3))) := Lib.hid ((((HBQ.out.trans (B8.mono (by omega))).setCell (p := ⟨pb, 0, none⟩) (Nat.le_refl _) _).setCell (p := ⟨pb, 1, none⟩) (Nat.le_refl _) _).setCell (p := ⟨pb, 2, none⟩) (Nat.le_refl _) _)
              have HP9 : Hid (OwnC (((w8.setCell ⟨pb, 0, none⟩ (.float .f32 a3)).setCell ⟨pb, 1, none⟩ (.float .f32 b3)).setCell ⟨pb, 2, none⟩ (.float .f32 d3)) pb #[.float .f32 a3, .float .f32 b3, .float .f32 d3] 46) := Lib.hid ((((HP8.out.set 0 (.float .f32 a3)).set 1 (.float .f32 b3)).set 2 (.float .f32 d3)).congr rfl)
              clear HP8 f80 f81 f82 c80 c81 c82 c70 c71 c72 c60 c61 c62 c50 c51 c52 q0 q1 q2 B5 B6 B7 B8 K0 K1 K2 K3 HD0 HM
              generalize ((w8.setCell ⟨pb, 0, none⟩ (.float .f32 a3)).setCell ⟨pb, 1, none⟩ (.float .f32 b3)).setCell ⟨pb, 2, none⟩ (.float .f32 d3) = w9 at *
              have HB9p : Hid (Below wo.heap.size wo w9) := Lib.hid (by rw [hpb]; exact HB9.out)
              have c0 := HP9.out.cell 0
              have c1 := HP9.out.cell 1
              have c2' := HP9.out.cell 2
              have o09 := (HOWN.out.below HB9p.out (by omega)).cell 0
              simp at c0 c1 c2' o09
              have HRV : Hid (ORow0 (w9.alloc (.cells #[.float .f32 a3, .float .f32 b3, .float .f32 d3] 46)) 46 3 v j cs) := Lib.hid (ORow0.below HROW.out (HB9p.out.alloc HB9p.out.size _))
              go_wp2_with (at_builtin; refine wpList_app0 rfl _ _ _ rfl 46 (.agg #[.float .f32 0, .float .f32 0, .float .f32 0]) 3 12 Try.underlying24 infoSpot' rfl (by decide) _ v j cs rfl HRV.out ⟨w9.heap.size, 0, none⟩ 1 1 [.float .f32 a3, .float .f32 b3, .float .f32 d3] rfl rfl (World.news_of_block (heap_alloc_new w9 _)) (by simp [Value.oneCell']) (by decide) (by omega) (by decide) ?_; intro b7 c7 w8 hr7 hb7 hl7 hg7; have HST := Lib.hid (EzI.step HROW.out HSP.out HVB.out HOWN.out HCH.out (by omega) HB9p.out HQP.out hg7 hr7 (by simpa using hb7)); have hO8 : OwnC w8 ob #[v, (.slice (some ⟨bf, 0, none⟩) fs.length c2)] 27 := (hg7.block ob (by have := (HB9p.out).size; simp; omega) (fun e => by have := HVB.out _ e.symm; omega)).trans ((HOWN.out.below (HB9p.out) (by omega)).alloc _); have o18 := hO8.cell 0; have o18f := hO8.free 0; simp at o18; clear hr7 hb7 hg7 hO8)
              go_roundw
              all_goals first
                | exact ⟨j + 1, by omega, by go_num, HST⟩
                | (simp [intOf]; omega)
      · have hz1 : ¬ ((othBd fs (j : Int)).length : Int) = 0 := by omega
        have HQP : Hid (IsSp x0 y0 z0 (ezP ps fs (can .f32 sh) j)) := Lib.hid (by unfold ezP; rw [if_neg hz]; exact HPJ.out)
        go_wp2_with (first
          | (go_at_call 56; (with_reducible refine HC1.out.mono ?_); rintro e w3 ⟨⟨b1, cap1, rfl, hr1, hbb1⟩, hb3⟩; have HB3 := Lib.hid (HAL.out.trans (hb3.mono (by simp))); have hOP3 := HOP.out.below hb3 (by simp); have c0 := hOP3.cell 0; have c1 := hOP3.cell 1; have c2' := hOP3.cell 2; have hOB3 := HOWN.out.below HB3.out (by omega); have o03 := hOB3.cell 0; simp at c0 c1 c2' o03; have HRV : Hid (ORow0 (w3.alloc (.cells #[.float .f32 x0, .float .f32 y0, .float .f32 z0] 46)) 46 3 v j cs) := Lib.hid (ORow0.below HROW.out (HB3.out.alloc HB3.out.size _)); clear hr1 hb3 hOP3 hOB3)
          | (at_builtin; refine wpList_app0 rfl _ _ _ rfl 46 (.agg #[.float .f32 0, .float .f32 0, .float .f32 0]) 3 12 Try.underlying24 infoSpot' rfl (by decide) _ v j cs rfl HRV.out ⟨w3.heap.size, 0, none⟩ 1 1 [.float .f32 x0, .float .f32 y0, .float .f32 z0] rfl rfl (World.news_of_block (heap_alloc_new w3 _)) (by simp [Value.oneCell']) (by decide) (by omega) (by decide) ?_; intro b7 c7 w8 hr7 hb7 hl7 hg7; have HST := Lib.hid (EzI.step HROW.out HSP.out HVB.out HOWN.out HCH.out (by omega) HB3.out HQP.out hg7 hr7 (by simpa using hb7)); have hO8 : OwnC w8 ob #[v, (.slice (some ⟨bf, 0, none⟩) fs.length c2)] 27 := (hg7.block ob (by have := (HB3.out).size; simp; omega) (fun e => by have := HVB.out _ e.symm; omega)).trans ((HOWN.out.below (HB3.out) (by omega)).alloc _); have o18 := hO8.cell 0; have o18f := hO8.free 0; simp at o18; clear hr7 hb7 hg7 hO8))
        go_roundw
        case rel => exact ⟨j + 1, by omega, by go_num, HST⟩
        case measure => simp [intOf]; omega
    · have hjn : j = ps.length := by omega
      subst hjn
      obtain ⟨b7, c7, rfl, hr7⟩ := ORow0.form hrow hp0
      have hb7 := hvb b7 rfl
      have hel : ezT ps fs (can .f32 sh) ps.length = ezL ps fs (can .f32 sh) := rfl
      rw [hel] at hsp
      have hr7' : ORow wr 46 3 b7 c7 (ezL ps fs (can .f32 sh)).length cs := by rw [ezL_len]; exact hr7
      have hRN : OwnC wr (w.heap.size + 1) #[.slice none 0 0, .slice none 0 0] 27 := hch.own HR.out (by omega)
      have hobb := HOB7.out
      have hFN : OwnF wr w5.heap.size ob bf g fs := HF.out.far (hch.far (by omega) (fun b h1 h2 e => by omega))
      have hrw := hFN.row
      have hNW : ONet wr w5.heap.size wr.heap.size (some ⟨b7, 0, none⟩) (some ⟨bf, 0, none⟩) (ezL ps fs (can .f32 sh)) fs :=
        ⟨⟨.inr ⟨b7, rfl, by omega, hr7.lt, hr7'.room, hr7'.spots hsp⟩⟩, .inr ⟨bf, g, rfl, hFN.wide (Nat.le_refl _) (by omega), fun b e => by cases e; exact ⟨by omega, fun i hi => by have := hFN.blk i hi; omega⟩⟩⟩
      have hCA : SlC wr w5.heap.size wr.heap.size (some ⟨bf, 0, none⟩) fs := fun b off e => by
        cases e
        exact ⟨by omega, by omega, fun i hi ai n ci hc => hFN.cap i hi ai n ci (by rw [Nat.zero_add] at hc; exact hc)⟩
      have hG := giveB w5.heap.size wr.heap.size (some ⟨b7, 0, none⟩) (some ⟨bf, 0, none⟩) c7 c2 (ezL ps fs (can .f32 sh)) fs (by rw [ezL_len]; exact hp) hn HSH.out wr hNW.net hCA (Nat.le_refl _)
      rw [ezL_len] at hG
      have HNW := Lib.hid hNW
      have HBW : Hid (Below w.heap.size w wr) := Lib.hid (HB.out.trans (hch.toBelow (by omega) (fun c hc => by omega)))
      have HRN := Lib.hid hRN
      have o0 := hown.cell 0
      have o1 := hown.cell 1
      simp at o0 o1
      have hrl := hRN.lt
      cases hvz : okN (ezL ps fs (can .f32 sh)) fs
      all_goals
        rw [hvz] at hG
        have HVZ := Lib.hid hvz
        have HG := Lib.hid hG
        clear hvz hG hrow hsp hvb hown hch hA1 HI hr7 hr7' hRN hFN hNW hCA hel hobb
        go_wp2_with (go_at_call 33; refine HG.out.mono ?_; rintro e w9 ⟨rfl, hb9⟩; have R9 := HRN.out.below hb9 hrl; have r0 := R9.cell 0; have r1 := R9.cell 1; have i0 := R9.free 0; have i1 := R9.free 1; simp at r0 r1; have HB9 := Lib.hid hb9; clear hb9)
      · have R := (R9.set 0 (.slice none 0 0)).set 1 (.slice none 0 0)
        have q0 := R.cell 0
        have q1 := R.cell 1
        simp at q0 q1
        refine bodyPost_ret (v := .tuple #[.agg #[.slice none 0 0, .slice none 0 0], .bool false]) (by simp [results, Try.results17, go_sem, *]) rfl ?_
        exact RetN.noE (by rw [HO1.out]; exact HVZ.out) (((HBW.out.trans (HB9.out.mono HBW.out.size)).setCell (p := ⟨w.heap.size + 1, 0, none⟩) (by simp) (.slice none 0 0)).setCell (p := ⟨w.heap.size + 1, 1, none⟩) (by simp) (.slice none 0 0))
      · have R := (R9.set 0 (.slice (some ⟨b7, 0, none⟩) ps.length c7)).set 1 (.slice (some ⟨bf, 0, none⟩) fs.length c2)
        have q0 := R.cell 0
        have q1 := R.cell 1
        simp at q0 q1
        refine bodyPost_ret (v := .tuple #[.agg #[.slice (some ⟨b7, 0, none⟩) ps.length c7, .slice (some ⟨bf, 0, none⟩) fs.length c2], .bool true]) (by simp [results, Try.results17, go_sem, *]) rfl ?_
        have hez : ezO ps fs (can .f32 sh) = true := by rw [HO1.out]; exact HVZ.out
        have e1 : ezRP ps fs (can .f32 sh) = ezL ps fs (can .f32 sh) := by simp [ezRP, hez]
        have e2 : ezRF ps fs (can .f32 sh) = fs := by simp [ezRF, hez]
        rw [e1, e2, hez]
        have hfin : Far w5.heap.size wr.heap.size wr ((w9.setCell ⟨w.heap.size + 1, 0, none⟩ (.slice (some ⟨b7, 0, none⟩) ps.length c7)).setCell ⟨w.heap.size + 1, 1, none⟩ (.slice (some ⟨bf, 0, none⟩) fs.length c2)) := ((Far.below HB9.out (Nat.le_refl _)).set _ _ (by simp; omega)).set _ _ (by simp; omega)
        refine ⟨⟨some ⟨b7, 0, none⟩, some ⟨bf, 0, none⟩, c7, c2, by rw [ezL_len]; rfl, ?_⟩, ((HBW.out.trans (HB9.out.mono HBW.out.size)).setCell (by simp) _).setCell (by simp) _⟩
        have h8 := HB9.out.size
        have := HNW.out.far hfin
        simp only [World.size_setCell]
        exact this.wide (by omega) (by omega)
end Go.Proofs.Ytkjljajjjhfklaa

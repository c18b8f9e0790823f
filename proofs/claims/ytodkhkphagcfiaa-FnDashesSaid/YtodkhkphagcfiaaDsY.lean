/- Dashes: the law's three calls of DashPath. -/
import Derived.Test.YtodkhkphagcfiaaDsX
namespace Go.Fl
open Ieee Go.RowKit
theorem four_read32 : FloatKind.f32.format.read 1082130432 = .number false (2 ^ FB .f32) (((2 : Nat) : Int) - FB .f32) := by decide
def qW (m : Nat) : Nat := fop .quo .f32 (floatOfInt .f32 (m : Int)) 1082130432
theorem qW_q {m : Nat} (hm : m ≤ 64) : Q .f32 (qW m) m 2 := Q.half (e := 0) (Q.ofInt .f32 m (lt24 (by omega))) four_read32 (lt24 (by omega)) (by decide)
theorem qW_R {m : Nat} (hm : m ≤ 64) : isN .f32 (qW m) = true ∧ R .f32 (qW m) = ((m : Int) : Rat) / 4 := ⟨(qW_q hm).num, (qW_q hm).R⟩
theorem qW_run {m : Nat} (hm : m ≤ 64) : (∀ w, mop .quo .f32 (floatOfInt .f32 (m : Int)) 1082130432 w = qW m) ∧ mdr .quo .f32 (floatOfInt .f32 (m : Int)) 1082130432 = 0 := run_fopN (qW_q hm).num
theorem qW_half {m : Nat} (h2 : 2 ≤ m) (h8 : m ≤ 8) : isN .f32 (qW m) = true ∧ 1 / 2 ≤ R .f32 (qW m) ∧ R .f32 (qW m) ≤ 2 := by
  obtain ⟨h, e⟩ := qW_R (m := m) (by omega)
  have a := qN_le h2
  have b := qN_le h8
  have e2 : qN 2 = 2 := rfl
  have e8 : qN 8 = 8 := rfl
  rw [e2] at a
  rw [e8] at b
  have e : R .f32 (qW m) = qN m / 4 := e
  rw [e]
  exact ⟨h, by grind, by grind⟩
theorem sub0 {a : Nat} (ha : isN .f32 a = true) (h1 : -1000000 ≤ R .f32 a) (h2 : R .f32 a ≤ 1000000) : isN .f32 (fop .sub .f32 a 0) = true ∧ R .f32 (fop .sub .f32 a 0) = R .f32 a := by
  have z := zero32_N.2
  have q := rnd_sub ha zero32_N.1 (by rw [z]; grind) (by rw [z]; grind)
  rw [z] at q
  have l := q.le a ha (by grind)
  have g := q.ge a ha (by grind)
  exact ⟨q.num, by grind⟩
theorem one_N : isN .f32 1065353216 = true ∧ R .f32 1065353216 = 1 := by
  have q : Q .f32 1065353216 1 0 := ⟨by decide +kernel, by decide +kernel, by decide⟩
  exact ⟨q.num, by rw [q.R]; decide +kernel⟩
theorem thou_N : isN .f32 1148846080 = true ∧ R .f32 1148846080 = 1000 := by
  have q : Q .f32 1148846080 1000 0 := ⟨by decide +kernel, by decide +kernel, by decide⟩
  exact ⟨q.num, by rw [q.R]; decide +kernel⟩
theorem ptOf_p {a b : Nat} (ha : isN .f32 a = true) (a0 : 0 < R .f32 a) (hb : isN .f32 b = true) (b0 : 0 < R .f32 b) (k : Nat) : isN .f32 (ptOf a b k) = true ∧ 0 < R .f32 (ptOf a b k) := by
  unfold ptOf; split
  · exact ⟨ha, a0⟩
  · exact ⟨hb, b0⟩
theorem ptOf_mod (a b c : Nat) : ptOf a b c = ptOf a b (c % 2) := by unfold ptOf; rw [Nat.mod_mod]
theorem salg0 {a b : Nat} (ha : isN .f32 a = true) (a0 : 0 < R .f32 a) (a1 : R .f32 a ≤ 1000) (hb : isN .f32 b = true) (b0 : 0 < R .f32 b) : SAlg (ptOf a b) 0 (fun _ => 0) (fop .sub .f32 a 0) :=
  ⟨by decide, fun _ _ => zero32_N.1, ptOf_p ha a0 hb b0, fun k hk => absurd hk (Nat.not_lt_zero _), (ord_0 ha a0).1, .inr (by decide +kernel), (sub0 ha (by grind) (by grind)).1, rfl⟩
def oneS : Nat → Nat
  | 0 => 1065353216
  | _ + 1 => fop .sub .f32 1065353216 1065353216
theorem oneS_1 : isN .f32 (oneS 1) = true ∧ R .f32 (oneS 1) = 0 := by
  have q := rnd_sub one_N.1 one_N.1 (by rw [one_N.2]; grind) (by rw [one_N.2]; grind)
  rw [one_N.2] at q
  have z := zero32_N
  have l := q.le 0 z.1 (by rw [z.2]; grind)
  have g := q.ge 0 z.1 (by rw [z.2]; grind)
  rw [z.2] at l g
  exact ⟨q.num, by show R .f32 (fop .sub .f32 1065353216 1065353216) = 0; grind⟩
theorem salg1 : SAlg (ptOf 1065353216 1148846080) 1 oneS (fop .sub .f32 1148846080 (oneS 1)) := by
  have o := oneS_1
  have t := thou_N
  have hn := one_N
  refine ⟨by decide, fun k hk => ?_, ptOf_p hn.1 (by rw [hn.2]; grind) t.1 (by rw [t.2]; grind), fun k hk => ?_, ?_, .inl (ord_0 hn.1 (by rw [hn.2]; grind)).2, ?_, rfl⟩
  · have : k = 0 ∨ k = 1 := by omega
    rcases this with rfl | rfl
    · exact hn.1
    · exact o.1
  · have : k = 0 := by omega
    subst this
    exact ⟨by decide +kernel, o.1, rfl⟩
  · have h := ord_V o.1 t.1
    have hlt : V .f32 (oneS 1) < V .f32 1148846080 := by rw [← R_lt, o.2, t.2]; grind
    show FloatKind.f32.format.order (oneS 1) 1148846080 = some .lt
    rw [h, Int.compare_eq_lt.2 hlt]
  · exact (rnd_sub t.1 o.1 (by rw [o.2, t.2]; grind) (by rw [o.2, t.2]; grind)).num
theorem none_r : R .f32 (fop .sub .f32 1148846080 (oneS 1)) = 1000 := by
  have o := oneS_1
  have t := thou_N
  have q := rnd_sub t.1 o.1 (by rw [o.2, t.2]; grind) (by rw [o.2, t.2]; grind)
  rw [o.2, t.2] at q
  have l := q.le _ t.1 (by rw [t.2]; grind)
  have g := q.ge _ t.1 (by rw [t.2]; grind)
  rw [t.2] at l g
  grind
def RetM (xs : List Cx) (on off : Rat) (T : TypeId) (w : World) (e : Ending) (w' : World) : Prop := ∃ ao cap M ls, e = .returned (.tuple #[.slice ao M cap, .bool true]) ∧ M = ls.length ∧ GoodD xs on off ls ∧ LsAt w' T w.heap.size w'.heap.size ao cap ls
def RetW (xs : List Cx) (T : TypeId) (w : World) (e : Ending) (w' : World) : Prop := ∃ ao cap, e = .returned (.tuple #[.slice ao 1 cap, .bool true]) ∧ LsAt w' T w.heap.size w'.heap.size ao cap [xs]
def RetO (e : Ending) : Prop := ∃ ao cap, e = .returned (.tuple #[.slice ao 0 cap, .bool true])
end Go.Fl
namespace Go.Proofs.Ytodkhkphagcfiaa
open Go.RowKit Go.Fl
theorem dashMain {xs : List Cx} {z : Cx} {n a b : Nat} (h : PathS xs z n) (h2 : 2 ≤ n) (h7 : n ≤ 7) (ha : isN .f32 a = true ∧ 1 / 2 ≤ R .f32 a ∧ R .f32 a ≤ 2) (hb : isN .f32 b = true ∧ 1 / 2 ≤ R .f32 b ∧ R .f32 b ≤ 2) (bS cS pb cp : Nat) (w : World) (hbS : bS < w.heap.size) (hpb : pb < w.heap.size)
    (hc : ∀ i, i < n → w.cell? ⟨bS, i, none⟩ = some (cV (cAt xs i))) (p0 : w.cell? ⟨pb, 0, none⟩ = some (.float .f32 a)) (p1 : w.cell? ⟨pb, 1, none⟩ = some (.float .f32 b)) :
    Calls Try.prog 8 #[.slice (some ⟨bS, 0, none⟩) n cS, .slice (some ⟨pb, 0, none⟩) 2 cp, .float .f32 0] w fun e w' => RetM xs (R .f32 a) (R .f32 b) 24 w e w' ∧ Below w.heap.size w w' := by
  have C := h.ctx h2 h7 ha.2.1 ha.2.2 hb.2.1 hb.2.2
  obtain ⟨s1, s2⟩ := sub0 ha.1 (by have := ha.2.1; grind) (by have := ha.2.2; grind)
  refine (dashPathN C (C.main ha.1 rfl hb.1 rfl) (salg0 ha.1 (by have := ha.2.1; grind) (by have := ha.2.2; grind) hb.1 (by have := hb.2.1; grind)) (DSt.start C s1 s2) (fun z hz => by
    obtain ⟨k, hk, rfl⟩ := List.getElem_of_mem hz
    have := h.all k (by rw [← h.len]; exact hk)
    unfold cAt at this
    rw [List.getD_eq_getElem?_getD, List.getElem?_eq_getElem hk] at this
    exact this) bS n cS pb cp h.len w hbS hpb hc (fun i hi => by
    have : i = 0 ∨ i = 1 := by omega
    rcases this with rfl | rfl
    · exact p0
    · exact p1) (ptOf_mod a b)).mono ?_
  rintro e w' ⟨⟨ao, cap, c, g, r, d, out, he, hi, hl⟩, hbel⟩
  have hj : xs.length - 1 + 1 = xs.length := by have := h.len; omega
  exact ⟨⟨ao, cap, _, _, he, rfl, (hi.good C hj).1, hl⟩, hbel⟩
theorem dashWhole {xs : List Cx} {z : Cx} {n : Nat} (h : PathS xs z n) (h2 : 2 ≤ n) (h7 : n ≤ 7) (bS cS pb cp : Nat) (w : World) (hbS : bS < w.heap.size) (hpb : pb < w.heap.size)
    (hc : ∀ i, i < n → w.cell? ⟨bS, i, none⟩ = some (cV (cAt xs i))) (p0 : w.cell? ⟨pb, 0, none⟩ = some (.float .f32 1148846080)) (p1 : w.cell? ⟨pb, 1, none⟩ = some (.float .f32 1065353216)) :
    Calls Try.prog 8 #[.slice (some ⟨bS, 0, none⟩) n cS, .slice (some ⟨pb, 0, none⟩) 2 cp, .float .f32 0] w fun e w' => RetW xs 24 w e w' ∧ Below w.heap.size w w' := by
  have C := h.ctx h2 h7 (on := 1) (off := 1) (by grind) (by grind) (by grind) (by grind)
  have t := thou_N
  have o := one_N
  obtain ⟨s1, s2⟩ := sub0 t.1 (by rw [t.2]; grind) (by rw [t.2]; grind)
  have hl := h.len
  have ht : xs.take 1 = [cAt xs 0] := by
    have : xs.take (0 + 1) = xs.take 0 ++ [xs[0]] := List.take_succ_eq_append_getElem (by omega)
    rw [this]
    unfold cAt
    rw [List.getD_eq_getElem?_getD, List.getElem?_eq_getElem (by omega)]
    rfl
  have hx : ∀ k, k < xs.length → nN (cAt xs k) := fun k hk => h.all k (by omega)
  refine (dashPathN C (DW.alg C (c0 := 0) (by decide) hx) (salg0 t.1 (by rw [t.2]; grind) (by rw [t.2]; grind) o.1 (by rw [o.2]; grind)) ⟨rfl, rfl, rfl, by omega, by simp, fun _ => ht.symm, s1, by rw [s2, t.2, qN0]; grind, by rw [s2, t.2]; grind⟩ (fun z hz => by
    obtain ⟨k, hk, rfl⟩ := List.getElem_of_mem hz
    have := hx k hk
    unfold cAt at this
    rw [List.getD_eq_getElem?_getD, List.getElem?_eq_getElem hk] at this
    exact this) bS n cS pb cp h.len w hbS hpb hc (fun i hi => by
    have : i = 0 ∨ i = 1 := by omega
    rcases this with rfl | rfl
    · exact p0
    · exact p1) (ptOf_mod _ _)).mono ?_
  rintro e w' ⟨⟨ao, cap, c, g, r, d, out, he, hi, hls⟩, hbel⟩
  have e1 : finO c d out = [xs] := by
    unfold finO
    have hd := hi.dd rfl
    rw [hi.c, if_pos rfl, hi.o, hd, show xs.length - 1 + 1 = xs.length by omega, List.take_length]
    rfl
  rw [e1] at he hls
  exact ⟨⟨ao, cap, he, hls⟩, hbel⟩
theorem dashNone {xs : List Cx} {z : Cx} {n : Nat} (h : PathS xs z n) (h2 : 2 ≤ n) (h7 : n ≤ 7) (bS cS pb cp : Nat) (w : World) (hbS : bS < w.heap.size) (hpb : pb < w.heap.size)
    (hc : ∀ i, i < n → w.cell? ⟨bS, i, none⟩ = some (cV (cAt xs i))) (p0 : w.cell? ⟨pb, 0, none⟩ = some (.float .f32 1065353216)) (p1 : w.cell? ⟨pb, 1, none⟩ = some (.float .f32 1148846080)) :
    Calls Try.prog 8 #[.slice (some ⟨bS, 0, none⟩) n cS, .slice (some ⟨pb, 0, none⟩) 2 cp, .float .f32 1065353216] w fun e w' => RetO e ∧ Below w.heap.size w w' := by
  have C := h.ctx h2 h7 (on := 1) (off := 1) (by grind) (by grind) (by grind) (by grind)
  have hl := h.len
  have hx : ∀ k, k < xs.length → nN (cAt xs k) := fun k hk => h.all k (by omega)
  have hr := none_r
  have hd := dashPathN (S := oneS) C (DW.alg C (pt := ptOf 1065353216 1148846080) (c0 := 1) (by decide) hx) salg1 ⟨rfl, rfl, rfl, by omega, by simp, fun h => absurd h (by decide), salg1.r.1, by rw [hr, qN0]; grind, by rw [hr]; grind⟩ (fun z hz => by
    obtain ⟨k, hk, rfl⟩ := List.getElem_of_mem hz
    have := hx k hk
    unfold cAt at this
    rw [List.getD_eq_getElem?_getD, List.getElem?_eq_getElem hk] at this
    exact this) bS n cS pb cp h.len w hbS hpb hc (fun i hi => by
    have : i = 0 ∨ i = 1 := by omega
    rcases this with rfl | rfl
    · exact p0
    · exact p1) (ptOf_mod _ _)
  refine Calls.mono hd ?_
  rintro e w' ⟨⟨ao, cap, c, g, r, d, out, he, hi, hls⟩, hbel⟩
  have e1 : finO c d out = [] := by
    unfold finO
    rw [hi.c, if_neg (by decide), hi.o]
  rw [e1] at he
  exact ⟨⟨ao, cap, he⟩, hbel⟩
end Go.Proofs.Ytodkhkphagcfiaa

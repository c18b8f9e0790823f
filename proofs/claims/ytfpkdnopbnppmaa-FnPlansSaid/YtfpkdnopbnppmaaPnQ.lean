/- The contracts of FnPlans' functions at the law's own numbers; what b10At reads. -/
import Derived.Test.YtfpkdnopbnppmaaPnP
import Derived.Test.YtfpkdnopbnppmaaPlanWayI
import Derived.Test.YtfpkdnopbnppmaaJerkI
namespace Go.Fl
open Ieee Go.RowKit
theorem isN.nan {K : FloatKind} {x : Nat} (h : isN K x = true) : nanB K x = false := by
  obtain ⟨s, m, i, hr, _⟩ := isN_read h
  unfold nanB; rw [hr]; rfl
theorem quiet_of3 {P : Program} {f : FuncId} {args : Array Value} {w : World} {q n : Nat} {v : Value} (h : ∀ w, Calls P f args w fun e w' => e = .returned v ∧ w' = w) :
    Calls P f args (w.drewN (q + n)) fun e w'' => e = .returned v ∧ ∃ m, w'' = w.drewN (q + m) := (h _).mono fun _ _ ⟨he, hw⟩ => ⟨he, n, hw⟩
@[go_sem high] theorem run_wid1 {P : Program} {w : World} {src dst : TypeId} (b : Nat) (h1 : nanB .f32 b = false) (hs : (P.underlying src).isSome = true) (hd : P.underlying dst = some (.float .f64)) :
    (convert src dst (.float .f32 b)).run P w = .ok (.float .f64 (fcv .f32 .f64 b)) w := by
  rw [run_widen b hs hd]
  simp [mcv, mcd, h1, fits_widen b, World.drewN_zero, fcv]
/-- the byte at i, as the law takes it -/
def atN (w : World) (a : Option Addr) (n i k : Nat) : Nat :=
  if i < n then (match a with | some ⟨b, off, _⟩ => (match w.cell? ⟨b, off + i, none⟩ with | some (.int .u8 x) => x.toNat % k | _ => 0) | none => 0) else (i * 37 + 11) % k
theorem atN_far {w w' : World} {P : Nat} {a : Option Addr} {n : Nat} (h : CodeAt w P a n) (hf : Far 0 P w w') (i k : Nat) : atN w' a n i k = atN w a n i k := by
  unfold atN
  by_cases hi : i < n
  · rw [if_pos hi, if_pos hi]
    obtain ⟨b, off, rfl, hb, hc⟩ := h (by omega)
    simp only
    rw [hf.cell (Nat.zero_le _) hb]
  · rw [if_neg hi, if_neg hi]
end Go.Fl
namespace Go.Proofs.Ytfpkdnopbnppmaa
open Go.RowKit Go.Fl
theorem b10AtV (P : Nat) (a : Option Addr) (n c i k : Nat) (hn : n ≤ 1048576) (hi : i ≤ 100) (hk : 1 < k) (hk2 : k ≤ 1000) (w : World) (h : CodeAt w P a n) :
    Calls Try.prog 5 #[.slice a n c, .int .i64 (i : Nat), .int .i64 (k : Nat)] w fun e w' => e = .returned (.int .i64 (atN w a n i k : Nat)) ∧ atN w a n i k < k ∧ w' = w := by
  have HC := Lib.hid h
  clear h
  have k0 : ¬ (k : Int) ≤ 1 := by omega
  have k1 : ¬ (k : Int) = 0 := by omega
  have k2 : (k : Int) ≤ 1000 := by omega
  have i0 : (0 : Int) ≤ (i : Int) := by omega
  have i1 : (i : Int) ≤ 100 := by omega
  by_cases hlt : i < n
  · obtain ⟨b, off, rfl, hb, hc⟩ := HC.out (by omega)
    obtain ⟨x, hx, h255⟩ := hc i hlt
    have hv : atN w (some ⟨b, off, none⟩) n i k = x % k := by
      unfold atN
      rw [if_pos hlt]
      simp only [hx]
      rfl
    have HV := Lib.hid hv
    have hlt' : (i : Int) < (n : Int) := by omega
    clear hc hv
    go_enter Try.func5, Try.ntmps5
    go_wp2_with fail
    go_ret
    rw [HV.out]
    exact ⟨rfl, Nat.mod_lt _ (by omega), rfl⟩
  · have hlt' : ¬ (i : Int) < (n : Int) := by omega
    have HV := Lib.hid (show atN w a n i k = (i * 37 + 11) % k by unfold atN; rw [if_neg hlt])
    go_enter Try.func5, Try.ntmps5
    go_wp2_with fail
    go_ret
    rw [HV.out]
    exact ⟨rfl, Nat.mod_lt _ (by omega), rfl⟩
theorem map_can {l : List Nat} (h : ∀ x ∈ l, isN .f32 x = true) : l.map (Go.Fl.can .f32) = l := by
  induction l with
  | nil => rfl
  | cons a l ih => rw [List.map_cons, isN.canN (h a (by simp)), ih fun x hx => h x (by simp [hx])]
theorem speedsOk (g n K1 cap m b : Nat) (ls : List Nat) (w : World) (hK1 : K1 = n + 1) (hl : ls.length = n) (n2 : 2 ≤ n) (n7 : n ≤ 7) (ho : okL ls) (m1 : 1 ≤ m) (m8 : m ≤ 8) (b1 : 1 ≤ b) (b8 : b ≤ 8) (hr : ORow w 26 1 g cap n (ls.map (Value.float .f32))) :
    Calls Try.prog 6 #[.slice (some ⟨g, 0, none⟩) n cap, .float .f32 (hW m), .float .f32 (hW b)] w fun e w' =>
      ∃ bb c : Nat, e = .returned (.tuple #[.slice (some ⟨bb, 0, none⟩) K1 c, .float .f32 (spSum ls (spEnd ls (hW m) (hW b)) n), .bool true]) ∧ w.heap.size ≤ bb ∧ bb < w'.heap.size ∧ OwnF1 w' bb (spEnd ls (hW m) (hW b)) ∧ Below w.heap.size w w' := by
  have hs := sp_in hl n2 n7 ho m1 m8 b1 b8
  have ok := sp_ok hs
  have hv := (speeds_ok hs).1
  have ht := (time_last hs).1
  have e1 : ls.map (Go.Fl.can .f32) = ls := map_can fun x hx => by
    obtain ⟨i, hi, rfl⟩ := List.getElem_of_mem hx
    have := (hs.ls i (by omega)).1
    unfold nF at this
    rwa [List.getD_eq_getElem?_getD, List.getElem?_eq_getElem hi] at this
  have hrd : RdF w 0 w.heap.size (some ⟨g, 0, none⟩) ls := fun _ => ⟨g, 0, rfl, Nat.zero_le _, hr.lt, fun i hi => by
    rw [Nat.zero_add, hr.cell i (by omega), List.getElem?_map, List.getElem?_eq_getElem hi]
    unfold nF
    rw [List.getD_eq_getElem?_getD, List.getElem?_eq_getElem hi]; rfl⟩
  have hc := implSpeed 0 w.heap.size (some ⟨g, 0, none⟩) ls cap (hW m) (hW b) (by omega) w hrd (Nat.le_refl _)
  rw [e1, (isN.canN hs.mN), (isN.canN hs.rN), hl] at hc
  refine hc.mono ?_
  rintro e w' ⟨h1, hb⟩
  rcases h1 with ⟨_, bb, c, s, rfl, hF, g1, g2, g3⟩ | ⟨hno, _⟩
  · refine ⟨bb, c, ?_, g1, g2, g3, hb⟩
    rw [hv.len, hF.word ht, hK1]
  · exact absurd ok hno
theorem jerkOk {l m b k : Nat} (l1 : 1 ≤ l) (l8 : l ≤ 32) (m1 : 1 ≤ m) (m8 : m ≤ 8) (b1 : 1 ≤ b) (b8 : b ≤ 8) (k1 : 1 ≤ k) (k8 : k ≤ 8) (w : World) :
    Calls Try.prog 8 #[.float .f32 (qW l), .float .f32 (hW m), .float .f32 (hW b), .float .f32 (hW k)] w fun e w' =>
      e = .returned (.tuple #[agg4 (hW k) (jkPlan (qW l) (hW m) (hW b) (hW k)).1 (jkPlan (qW l) (hW m) (hW b) (hW k)).2.1 (jkPlan (qW l) (hW m) (hW b) (hW k)).2.2, .bool true]) ∧ Below w.heap.size w w' := by
  have H := j_in l1 l8 m1 m8 b1 b8 k1 k8
  have g := plan_good H
  have c1 := (isN.canN H.nl)
  have c2 := (isN.canN H.nm)
  have c3 := (isN.canN H.nr)
  have c4 := (isN.canN H.nj)
  have ha : jkArgs (qW l) (hW m) (hW b) (hW k) = true := by
    unfold jkArgs
    rw [above_N H.nl (by have := H.l0; grind), above_N H.nm (by have := H.m0; grind), above_N H.nr (by have := H.r0; grind), above_N H.nj (by have := H.j0; grind)]; rfl
  have hok : jkOk (qW l) (hW m) (hW b) (hW k) = true := by
    unfold jkOk
    rw [ha, g.ok]; rfl
  refine (jerkI_yes (qW l) (hW m) (hW b) (hW k) w (by rw [c1, c2, c3, c4]; exact ha)).mono ?_
  rintro e w' ⟨⟨x, y, z, u, rfl, h1, h2, h3, h4⟩, hb⟩
  rw [c1, c2, c3, c4, hok] at *
  simp only [if_true] at h1 h2 h3 h4
  rw [h1.word g.pw.nj, h2.word g.pw.nr, h3.word g.pw.nh, h4.word g.pw.nc]
  exact ⟨rfl, hb⟩
theorem timeOk {lw mw rw jw r h c : Nat} (g : GoodPlan lw mw rw jw r h c) (w : World) :
    Calls Try.prog 9 #[agg4 jw r h c] w fun e w' => e = .returned (.tuple #[.float .f32 (planTime r h c), .bool true]) ∧ Below w.heap.size w w' := by
  have ok := g.ok
  have nt := (total_ok g.pw).1
  have c1 := (isN.canN g.pw.nj)
  have c2 := (isN.canN g.pw.nr)
  have c3 := (isN.canN g.pw.nh)
  have c4 := (isN.canN g.pw.nc)
  refine (planTimeI jw r h c w).mono ?_
  rintro e w' ⟨⟨x, rfl, h1⟩, hb⟩
  have hf : fin (planTime r h c) = true := fin_N nt
  rw [c1, c2, c3, c4, ok] at *
  simp only [if_true] at h1
  unfold ifFin at h1
  rw [hf] at *
  simp only [if_true] at h1
  rw [h1.word nt]
  exact ⟨rfl, hb⟩
theorem wayOk {lw mw rw jw r h c t : Nat} (H : JIn lw mw rw jw) (g : GoodPlan lw mw rw jw r h c) (nt : isN .f32 t = true) (t0 : 0 ≤ R .f32 t) (t9 : R .f32 t ≤ 64) (w : World) :
    Calls Try.prog 10 #[agg4 jw r h c, .float .f32 t] w fun e w' => e = .returned (.tuple #[.float .f32 (pwTo jw r h c t 7).1, .bool true]) ∧ Below w.heap.size w w' := by
  have ok := g.ok
  have nx := (way_facts H g nt t0 t9).1
  have c1 := (isN.canN g.pw.nj)
  have c2 := (isN.canN g.pw.nr)
  have c3 := (isN.canN g.pw.nh)
  have c4 := (isN.canN g.pw.nc)
  have c5 := (isN.canN nt)
  refine (planWayI_yes jw r h c t w (by rw [c1, c2, c3, c4]; exact ok) (by rw [c5]; exact least_N nt t0)).mono ?_
  rintro e w' ⟨⟨x, rfl, h1⟩, hb⟩
  have hf : fin (pwTo jw r h c t 7).1 = true := fin_N nx
  rw [c1, c2, c3, c4, c5] at h1 ⊢
  unfold ifFin at h1
  rw [if_pos hf] at h1
  rw [h1.word nx, hf]
  exact ⟨rfl, hb⟩
end Go.Proofs.Ytfpkdnopbnppmaa

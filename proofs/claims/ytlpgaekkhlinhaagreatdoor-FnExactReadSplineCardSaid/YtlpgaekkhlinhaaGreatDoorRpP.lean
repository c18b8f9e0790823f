/- The plain law of splines: what a valid one is. -/
import Derived.Test.YtlpgaekkhlinhaaGreatDoorRcS
import Derived.Test.YtlpgaekkhlinhaaGreatDoorRdI
namespace Go.Fl
open Go.RowKit
/-- numbers' order, by their bits -/
def ordK (a b : Nat) := FloatKind.f32.format.order a b
def kAt (ks : List Nat) (i : Nat) : Nat := ks.getD i 0
/-- a valid spline of degree D -/
structure SplOk (D : Nat) (ks : List Nat) (ps : List Cx) : Prop where
  d1 : 1 ≤ D
  d5 : D ≤ 5
  n1 : D + 1 ≤ ps.length
  n24 : ps.length ≤ 24
  kl : ks.length = ps.length + D + 1
  fk : ks.all (fun x => fin (can .f32 x)) = true
  fp : ps.all okPt = true
  lo : ordK (kAt ks 0) (kAt ks (ps.length + D)) = some .lt
  a : ordK (kAt ks 0) (kAt ks D) = some .eq
  b : ordK (kAt ks (ps.length + D)) (kAt ks ps.length) = some .eq
  rise : ∀ i, 1 ≤ i → i < ks.length → ordK (kAt ks i) (kAt ks (i - 1)) ≠ some .lt
  inn : ∀ i, D + 1 ≤ i → i < ps.length → ordK (kAt ks i) (kAt ks 0) ≠ some .eq ∧ ordK (kAt ks i) (kAt ks (ps.length + D)) ≠ some .eq ∧ (i + D < ps.length → ordK (kAt ks i) (kAt ks (i + D)) ≠ some .eq)
/-- whether a spline is valid -/
def SplY (d : Int) (ks : List Nat) (ps : List Cx) : Prop := ∃ D : Nat, d = (D : Int) ∧ SplOk D ks ps
theorem SplY.ok {D : Nat} {ks : List Nat} {ps : List Cx} (h : SplY (D : Int) ks ps) : SplOk D ks ps := by
  obtain ⟨E, e, h⟩ := h
  obtain rfl : D = E := by omega
  exact h
theorem no_ord {a b : Nat} (h : (FloatKind.f32.format.order a b == some .lt) = true) : ordK a b = some .lt := by simpa [ordK] using h
theorem fin_ord {a b : Nat} (ha : fin (can .f32 a) = true) (hb : fin (can .f32 b) = true) : ∃ o, ordK a b = some o := by
  have h1 := fin_nan ha
  have h2 := fin_nan hb
  unfold nanB at h1 h2
  unfold ordK Ieee.Format.order
  cases hd : FloatKind.f32.format.read a with
  | nan s f => rw [hd] at h1; simp [Ieee.Datum.isNaN] at h1
  | infinity s => cases he : FloatKind.f32.format.read b with
    | nan t f => rw [he] at h2; simp [Ieee.Datum.isNaN] at h2
    | infinity t => exact ⟨_, rfl⟩
    | number t m e => exact ⟨_, rfl⟩
  | number s m e => cases he : FloatKind.f32.format.read b with
    | nan t f => rw [he] at h2; simp [Ieee.Datum.isNaN] at h2
    | infinity t => exact ⟨_, rfl⟩
    | number t m e => exact ⟨_, rfl⟩
/-- the spline that a text tells -/
def RdSpline (s : List UInt8) (d : Int) (xs : List Nat) (zs : List Cx) : Prop := ∃ o p q, cutL 59 s = [o, p, q] ∧ RdInt o d ∧ Reads hex1 Own1 p xs ∧ Reads hex2 Own2 q zs ∧ SplY d xs zs
theorem RdSpline.unique {s : List UInt8} {d c : Int} {zs ys : List Cx} {xs us : List Nat} (h : RdSpline s d xs zs) (k : RdSpline s c us ys) : d = c ∧ xs = us ∧ zs = ys := by
  obtain ⟨o, p, q, h1, h0, h2, h3, _⟩ := h
  obtain ⟨o', p', q', k1, k0, k2, k3, _⟩ := k
  rw [h1] at k1
  simp only [List.cons.injEq, and_true] at k1
  obtain ⟨rfl, rfl, rfl⟩ := k1
  exact ⟨h0.unique k0, h2.unique texts1 k2, h3.unique texts2 k3⟩
/-- what the reading of a spline returns -/
structure RetP (s : List UInt8) (w0 : World) (e : Ending) (w' : World) : Prop where
  yes : ∀ d xs zs, RdSpline s d xs zs → ∃ b1 c1 b2 c2, e = .returned (.tuple #[.agg #[.int .i64 d, .slice (some ⟨b1, 0, none⟩) xs.length c1, .slice (some ⟨b2, 0, none⟩) zs.length c2], .bool true]) ∧ OwnF1 w' b1 xs ∧ OwnC1 w' b2 zs ∧ w0.heap.size ≤ b1 ∧ w0.heap.size ≤ b2 ∧ b1 ≠ b2
  no : (∀ d xs zs, ¬ RdSpline s d xs zs) → e = .returned (.tuple #[.agg #[.int .i64 0, .slice none 0 0, .slice none 0 0], .bool false])
  below : Below w0.heap.size w0 w'
end Go.Fl

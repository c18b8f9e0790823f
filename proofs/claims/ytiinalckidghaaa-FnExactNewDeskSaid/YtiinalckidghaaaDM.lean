/- Marks on curves, splines and sheets and whether they are held, by the law's own functions. -/
import Derived.Test.YtiinalckidghaaaDL
namespace Go.Fl
open Go.RowKit
theorem Ch.only {S : Nat → Prop} {w w' : World} (h : Only S w w') : Ch S w w' := ⟨h.os, h.tape, h.output, Nat.le_of_eq h.size.symm, fun c _ hc => h.block c hc⟩
theorem Ch.more {S S' : Nat → Prop} {a b c : World} (h : Ch S a b) (k : Ch S' b c) (hs : ∀ x, S' x → S x) : Ch S a c := h.trans k (fun b hb => .inl (hs b hb))
theorem Ch.farS {S : Nat → Prop} {w w' : World} (h : Ch S w w') {lo hi : Nat} (hh : hi ≤ w.heap.size) (hs : ∀ c, S c → c < lo ∨ hi ≤ c) : Far lo hi w w' := fun c h1 h2 => h.block c (by omega) (fun q => by have := hs c q; omega)
theorem Room.ch {S : Nat → Prop} {w w' : World} {b n : Nat} (h : Room w b n) (hc : Ch S w w') (hb : ¬ S b) : Room w' b n := Room.same (hc.block b h.lt hb) h
end Go.Fl
namespace Go.Proofs.Ytiinalckidghaaa
open Go.RowKit Go.Fl
set_option maxHeartbeats 1000000 in
theorem markCur (g h n c1 m c2 k : Nat) (hk : k + n < 2100) (hm : m ≤ 1048576) (hgh : g ≠ h) (w : World) (hr : Room w g n) (hs : Room w h m) :
    Calls Try.prog 19 #[.agg #[.slice (some ⟨g, 0, none⟩) n c1, .slice (some ⟨h, 0, none⟩) m c2], .int .i64 (k : Nat)] w fun e w' => e = .returned (.int .i64 (((k + n : Nat) : Int) + m)) ∧ SlC w' g (g + 1) (some ⟨g, 0, none⟩) (mL k n) ∧ SlK w' h (h + 1) (some ⟨h, 0, none⟩) m ((k + n : Nat) : Int) ∧ Ch (fun c => c = g ∨ c = h) w w' := by
  have hg1 := hr.lt
  have hh1 := hs.lt
  have hbA : Below w.heap.size w (w.alloc (.cells #[.slice (some ⟨g, 0, none⟩) n c1, .slice (some ⟨h, 0, none⟩) m c2] 25)) := Below.alloc (Below.refl _ _) (Nat.le_refl _) _
  have HR := Lib.hid (hr.far (Far.below hbA (Nat.le_refl _)) (Nat.zero_le _) hg1)
  have HS := Lib.hid (hs.far (Far.below hbA (Nat.le_refl _)) (Nat.zero_le _) hh1)
  have HP := Lib.hid (show OwnC (w.alloc (.cells #[.slice (some ⟨g, 0, none⟩) n c1, .slice (some ⟨h, 0, none⟩) m c2] 25)) w.heap.size #[.slice (some ⟨g, 0, none⟩) n c1, .slice (some ⟨h, 0, none⟩) m c2] 25 from OwnC.new rfl)
  have HBA := Lib.hid hbA
  have hsz : (w.alloc (.cells #[.slice (some ⟨g, 0, none⟩) n c1, .slice (some ⟨h, 0, none⟩) m c2] 25)).heap.size = w.heap.size + 1 := by simp
  clear hr hs hbA
  go_enter Try.func19, Try.ntmps19
  go_wp2_with (first
    | (go_at_call 22; refine (markC1 g n c1 k hk _ HR.out).mono ?_; rintro e w1 ⟨rfl, hs1, ho1⟩; have hP1 : OwnC w1 w.heap.size _ _ := (ho1.block _ (by omega)).trans HP.out; have p1 := hP1.cell 1; simp at p1; have HS1 := Lib.hid hs1; have HO1 := Lib.hid ho1; clear hs1 ho1 hP1)
    | (go_at_call 38; refine (markF h m c2 ((k + n : Nat) : Int) hm (by omega) (by omega) _ (HO1.out.room _ _ HS.out)).mono ?_; rintro e w2 ⟨rfl, hs2, ho2⟩; have HS2 := Lib.hid hs2; have HO2 := Lib.hid ho2; clear hs2 ho2))
  go_ret
  refine ⟨rfl, HS1.out.far (HO2.out.far (fun c hc => by omega)), HS2.out, ?_⟩
  exact ((Ch.below HBA.out).more (Ch.only HO1.out) (fun x hx => .inl hx)).more (Ch.only HO2.out) (fun x hx => .inr hx)
set_option maxHeartbeats 1000000 in
theorem markSpn (d : Int) (g h n c1 m c2 k : Nat) (hk : k + n + m < 2100) (hgh : g ≠ h) (w : World) (hr : Room w g n) (hs : Room w h m) :
    Calls Try.prog 20 #[.agg #[.int .i64 d, .slice (some ⟨g, 0, none⟩) n c1, .slice (some ⟨h, 0, none⟩) m c2], .int .i64 (k : Nat)] w fun e w' => e = .returned (.int .i64 (((k + n) + m : Nat) : Int)) ∧ SlK w' g (g + 1) (some ⟨g, 0, none⟩) n (k : Int) ∧ SlC w' h (h + 1) (some ⟨h, 0, none⟩) (mL (k + n) m) ∧ Ch (fun c => c = g ∨ c = h) w w' := by
  have hg1 := hr.lt
  have hh1 := hs.lt
  have hbA : Below w.heap.size w (w.alloc (.cells #[.int .i64 d, .slice (some ⟨g, 0, none⟩) n c1, .slice (some ⟨h, 0, none⟩) m c2] 27)) := Below.alloc (Below.refl _ _) (Nat.le_refl _) _
  have HR := Lib.hid (hr.far (Far.below hbA (Nat.le_refl _)) (Nat.zero_le _) hg1)
  have HS := Lib.hid (hs.far (Far.below hbA (Nat.le_refl _)) (Nat.zero_le _) hh1)
  have HP := Lib.hid (show OwnC (w.alloc (.cells #[.int .i64 d, .slice (some ⟨g, 0, none⟩) n c1, .slice (some ⟨h, 0, none⟩) m c2] 27)) w.heap.size #[.int .i64 d, .slice (some ⟨g, 0, none⟩) n c1, .slice (some ⟨h, 0, none⟩) m c2] 27 from OwnC.new rfl)
  have HBA := Lib.hid hbA
  clear hr hs hbA
  have HMF := Lib.hid (show ∀ W, Room W g n → Calls Try.prog 38 #[.slice (some ⟨g, 0, none⟩) n c1, .int .i64 (k : Nat)] W fun e w' => e = .returned (.int .i64 ((k + n : Nat) : Int)) ∧ SlK w' g (g + 1) (some ⟨g, 0, none⟩) n (k : Int) ∧ Only (fun c => c = g) W w' from fun W hW => by
    have := markF g n c1 (k : Int) (by omega) (by omega) (by omega) W hW
    simpa using this)
  go_enter Try.func20, Try.ntmps20
  go_wp2_with (first
    | (go_at_call 38; refine (HMF.out _ HR.out).mono ?_; rintro e w1 ⟨rfl, hs1, ho1⟩; have hP1 : OwnC w1 w.heap.size _ _ := (ho1.block _ (by omega)).trans HP.out; have p2 := hP1.cell 2; simp at p2; have HS1 := Lib.hid hs1; have HO1 := Lib.hid ho1; clear hs1 ho1 hP1)
    | (go_at_call 22; refine (markC1 h m c2 (k + n) hk _ (HO1.out.room _ _ HS.out)).mono ?_; rintro e w2 ⟨rfl, hs2, ho2⟩; have HS2 := Lib.hid hs2; have HO2 := Lib.hid ho2; clear hs2 ho2))
  go_ret
  refine ⟨rfl, HS1.out.far (HO2.out.far (fun c hc => by omega)), HS2.out, ?_⟩
  exact ((Ch.below HBA.out).more (Ch.only HO1.out) (fun x hx => .inl hx)).more (Ch.only HO2.out) (fun x hx => .inr hx)
set_option maxHeartbeats 1000000 in
theorem markSht (x y : Int) (g n c1 : Nat) (k : Int) (hn : n ≤ 1048576) (h0 : 0 ≤ k) (h1 : k ≤ 1152921504606846976) (w : World) (hr : Room w g (n * 3)) :
    Calls Try.prog 21 #[.agg #[.int .i64 x, .int .i64 y, .slice (some ⟨g, 0, none⟩) n c1], .int .i64 k] w fun e w' => e = .returned (.int .i64 (k + n * 3)) ∧ SlM w' g (g + 1) (some ⟨g, 0, none⟩) n k ∧ Ch (fun c => c = g) w w' := by
  have hg1 := hr.lt
  have hbA : Below w.heap.size w (w.alloc (.cells #[.int .i64 x, .int .i64 y, .slice (some ⟨g, 0, none⟩) n c1] 30)) := Below.alloc (Below.refl _ _) (Nat.le_refl _) _
  have HR := Lib.hid (hr.far (Far.below hbA (Nat.le_refl _)) (Nat.zero_le _) hg1)
  have HBA := Lib.hid hbA
  clear hr hbA
  go_enter Try.func21, Try.ntmps21
  go_wp2_with (go_at_call 39; refine (markSpotM g n c1 k hn h0 h1 _ HR.out).mono ?_; rintro e w1 ⟨rfl, hs1, ho1⟩; have HS1 := Lib.hid hs1; have HO1 := Lib.hid ho1; clear hs1 ho1)
  go_ret
  exact ⟨rfl, HS1.out, (Ch.below HBA.out).more (Ch.only HO1.out) (fun x hx => hx)⟩
end Go.Proofs.Ytiinalckidghaaa

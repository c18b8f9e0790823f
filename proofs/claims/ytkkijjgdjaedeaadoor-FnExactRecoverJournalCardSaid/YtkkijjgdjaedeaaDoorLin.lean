/- spec.l08Lines: the lines of a text. -/
import Derived.Test.YtkkijjgdjaedeaaDoorCutS
import Derived.Test.YtkkijjgdjaedeaaDoorStr0
import Derived.Deep.QuietTactic
import Derived.BigQuiet
import Derived.OwnWalk
import Derived.Deep.RegionHeld3
namespace Go.Fl
/-- how many newlines -/
def nl (s : ByteArray) : Nat := Go.Lib.countB s ⟨#[10]⟩
def SlS (w : World) (b : Nat) (ps : List ByteArray) : Prop := ∀ i, i < ps.length → w.cell? ⟨b, i, none⟩ = some (.string (sAt ps i))
theorem pieces_nl (s : ByteArray) : (pieces s 10).length = nl s + 1 := pieces_len s 10
theorem nl_le (s : ByteArray) : nl s ≤ s.size := by
  have h : Go.Lib.countB s ⟨#[10]⟩ = s.data.toList.count 10 := Go.Lib.count_one 10 _
  unfold nl
  rw [h, ← size_list s]
  exact List.count_le_length
theorem SlS.row {w : World} {T : TypeId} {b cap n : Nat} {ps : List ByteArray} (h : ORow w T 1 b cap n (ps.map Value.string)) (hn : n = ps.length) : SlS w b ps := fun i hi => by
  rw [h.cell i (by omega), List.getElem?_map, List.getElem?_eq_getElem hi, sAt, List.getD_eq_getElem?_getD, List.getElem?_eq_getElem hi]
  rfl
theorem ORow.cap_ge {w : World} {e : TypeId} {size b cap n : Nat} {cs : List Value} (h : ORow w e size b cap n cs) : n ≤ cap := by
  obtain ⟨_, hr⟩ := h
  rcases hr with ⟨hn, _⟩ | ⟨g, c, cur, hv, hb, hg, h1, h2, h3, h4⟩
  · cases hn
  · have : cap = c := by simpa using (Value.slice.inj hv).2.2
    omega
end Go.Fl
namespace Go.Proofs.YtkkijjgdjaedeaaDoor
open Go.RowKit Go.Fl

set_option maxHeartbeats 1000000 in
theorem l08Lines (s : ByteArray) (hs : s.size ≤ 1048576) (w : World) :
    Calls Tryd.prog 12 #[.string s] w fun e w' => ∃ b cap, e = .returned (.tuple #[.slice (some ⟨b, 0, none⟩) (nl s) cap, .string (sAt (pieces s 10) (nl s))]) ∧
      Hid (SlS w' b (pieces s 10)) ∧ w.heap.size ≤ b ∧ Below w.heap.size w w' := by
  have hl := pieces_nl s
  have hn := nl_le s
  go_enter Tryd.func12, Tryd.ntmps12
  go_wp2_with (go_at_call 19; refine (l01Cut _ 10 _ rfl hs _).mono ?_; rintro e w1 ⟨b, cap, rfl, hr, hb, hB⟩; have HS := Lib.hid (SlS.row hr rfl); have hcap := hr.cap_ge; rw [hl] at hcap; rw [hl]; have k1 : ((nl s + 1 : Nat) : Int) - 1 = ((nl s : Nat) : Int) := (by omega); have k2 : ((nl s : Nat) : Int) ≤ (cap : Int) := (by omega); have k3 : (0 : Int) ≤ ((nl s : Nat) : Int) := (by omega); have k4 : ((nl s : Nat) : Int) < ((nl s + 1 : Nat) : Int) := (by omega); have c1 := HS.out (nl s) (by omega); clear hr)
  go_quiet (fail)
  go_wp2_with fail
  go_ret2
  exact ⟨b, cap, rfl, HS, hb, below_dr hB _⟩

end Go.Proofs.YtkkijjgdjaedeaaDoor

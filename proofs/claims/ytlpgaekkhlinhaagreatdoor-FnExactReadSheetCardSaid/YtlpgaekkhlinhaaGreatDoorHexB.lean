/- strconv.ParseUint, impl.readHex: eight bytes read as a number. -/
import Derived.Test.YtlpgaekkhlinhaaGreatDoorPu
namespace Go.Proofs.YtlpgaekkhlinhaaGreatDoor
open Go.RowKit Go.Fl

/-- the library's variable that a syntax error holds can be read -/
def Er (w : World) : Prop := ∃ ev, w.cell? ⟨2, 0, none⟩ = some ev ∧ (ev = .nilIface ∨ ∃ te pe, ev = .iface te pe)
theorem Er.on {w w' : World} (h : Er w) (hb : Below w.heap.size w w') : Er w' := by
  obtain ⟨ev, h1, h2⟩ := h
  exact ⟨ev, keep_cell hb h1, h2⟩

set_option maxHeartbeats 1000000 in
set_option maxRecDepth 100000 in
theorem parseUint16 (s : ByteArray) (hs : s.size = 8) (w : World) (he : Er w) :
    Calls Tryz.prog 73 #[.string s, .int .i64 16, .int .i64 32] w fun e w' => (∃ m : Nat, m < 4294967296 ∧ (∀ n, n < 4294967296 → s.data.toList = hexK n 8 → m = n) ∧ ∃ ev : Value, e = .returned (.tuple #[.int .u64 m, ev])) ∧ Below w.heap.size w w' := by
  have HE := Lib.hid he
  clear he
  go_enter Tryz.func73, Tryz.ntmps73
  go_wp2_with fail
  refine (parseUintI s hs w).mono ?_
  rintro e w1 ⟨hy, ⟨m, hm, ev, he, hev⟩, hb1⟩
  have hu : ∀ n, n < 4294967296 → s.data.toList = hexK n 8 → m = n := fun n hn h => by
    have h1 := hy n hn h
    rw [he] at h1
    simp at h1
    omega
  have HU := Lib.hid hu
  have HM := Lib.hid hm
  have HB1 := Lib.hid hb1
  clear hy hu hm
  obtain ⟨a, ha⟩ : ∃ a : Int, a = (m : Int) := ⟨_, rfl⟩
  rw [← ha] at he
  have HA := Lib.hid ha
  clear ha
  subst he
  rcases hev with rfl | rfl
  · clear hb1
    go_wp2_with fail
    go_ret2
    exact ⟨⟨m, HM.out, HU.out, .nilIface, by rw [← HA.out]; rfl⟩, HB1.out⟩
  · obtain ⟨sv, hsv, hsk⟩ := HE.out.on hb1
    have HT := Lib.hid (Tryz.strconv_toError_syntax ⟨#[80, 97, 114, 115, 101, 85, 105, 110, 116]⟩ s 16 32 sv w1 (by omega) hsv hsk)
    clear hb1 hsv hsk
    go_wp2_with fail
    refine HT.out.mono ?_
    rintro e w2 ⟨N, rfl, _, _, hb2⟩
    go_wp2_with fail
    go_ret2
    exact ⟨⟨m, HM.out, HU.out, _, by rw [← HA.out]; rfl⟩, HB1.out.trans (hb2.mono HB1.out.size)⟩

set_option maxHeartbeats 1000000 in
theorem readHex (s : ByteArray) (hs : s.size = 8) (w : World) (he : Er w) :
    Calls Tryz.prog 49 #[.string s] w fun e w' => (∃ m : Nat, m < 4294967296 ∧ (∀ n, n < 4294967296 → s.data.toList = hexK n 8 → m = n) ∧ e = .returned (.float .f32 m)) ∧ Below w.heap.size w w' := by
  go_enter Tryz.func49, Tryz.ntmps49
  go_wp2_with fail
  refine (parseUint16 s hs w he).mono ?_
  rintro e w1 ⟨⟨m, hm, hu, ev, rfl⟩, hb⟩
  have HU := Lib.hid hu
  have HM := Lib.hid hm
  have HB := Lib.hid hb
  have hw : IntKind.u32.wrap (m : Int) = (m : Int) := by rw [IntKind.wrap_u32]; omega
  have hbits := run_frombits m
  clear hu hb
  go_wp2_with fail
  go_ret
  exact ⟨⟨m, HM.out, HU.out, rfl⟩, HB.out⟩
end Go.Proofs.YtlpgaekkhlinhaaGreatDoor

/- Outlines found again: what is found, in plain words, and how it lies in memory. -/
import Derived.Test.YtjapidajammkbaaOTaken
import Derived.Test.YtjapidajammkbaaOEq
import Derived.Test.YtjapidajammkbaaOMk
namespace Go.Fl
open Go.RowKit
abbrev Ol := ByteArray × List (List Cx)
theorem sumL_le {ls : List (List Cx)} (h : ∀ i, i < ls.length → (lpAt ls i).length ≤ 64) : ∀ j, j ≤ ls.length → sumL ls j ≤ 64 * j
  | 0, _ => Nat.zero_le _
  | j + 1, hj => by
    have h1 := sumL_le h j (by omega)
    have h2 := h j (by omega)
    show sumL ls j + (lpAt ls j).length ≤ 64 * (j + 1)
    omega
/-- what holds of each outline that is read -/
def Fits (ls : List (List Cx)) : Prop := ls.length ≤ 4 ∧ sumL ls ls.length ≤ 256 ∧ Go.Proofs.Ytjapidajammkbaa.okAll ls
theorem RdJ.fits {s nm : ByteArray} {ls : List (List Cx)} {n : Nat} (h : RdJ s nm ls n) : Fits ls := by
  rcases h with ⟨h1, _, rfl, _⟩ | ⟨_, _, rfl, _⟩
  · obtain ⟨_, _, h4, h5⟩ := h1.2.1
    have hall : ∀ i, i < (pLps s (pLoops s)).length → (lpAt (pLps s (pLoops s)) i).length ≤ 64 ∧ (lpAt (pLps s (pLoops s)) i).all okPt = true := fun i hi => by
      have := List.all_eq_true.1 h5 _ (List.getElem_mem hi)
      have e : lpAt (pLps s (pLoops s)) i = (pLps s (pLoops s))[i] := by simp [lpAt, hi]
      rw [e]
      unfold okLoop at this
      simp only [Bool.and_eq_true, decide_eq_true_eq] at this
      exact ⟨this.1.2, this.2⟩
    refine ⟨h4, ?_, fun i hi => ⟨by have := (hall i hi).1; omega, (hall i hi).2⟩⟩
    have := sumL_le (fun i hi => (hall i hi).1) _ (Nat.le_refl (pLps s (pLoops s)).length)
    omega
  · exact ⟨by simp, by simp [sumL], fun i hi => absurd hi (Nat.not_lt_zero _)⟩
theorem RdJ.le {s nm : ByteArray} {ls : List (List Cx)} {n : Nat} (h : RdJ s nm ls n) : n ≤ s.size := by
  rcases h with ⟨h1, _, _, rfl⟩ | ⟨_, _, _, rfl⟩
  · exact h1.1.2.2
  · exact Nat.zero_le _
open Classical in
/-- the outlines one after another from p on, f at most; and where they end -/
noncomputable def recF (s : ByteArray) : Nat → Nat → List Ol × Nat
  | 0, p => ([], p)
  | f + 1, p => if Rd (s.extract p s.size) then
      ((pNm (s.extract p s.size), pLps (s.extract p s.size) (pLoops (s.extract p s.size))) :: (recF s f (p + (qAt (s.extract p s.size) (pLoops (s.extract p s.size)) + 2))).1, (recF s f (p + (qAt (s.extract p s.size) (pLoops (s.extract p s.size)) + 2))).2)
    else ([], p)
theorem recF_no {s nm : ByteArray} {ls : List (List Cx)} {p : Nat} (h : RdJ (s.extract p s.size) nm ls 0) : ∀ f, recF s f p = ([], p)
  | 0 => rfl
  | f + 1 => by
    rcases h with ⟨_, _, _, h⟩ | ⟨h, _⟩
    · omega
    · rw [recF, if_neg h]
theorem recF_yes {s nm : ByteArray} {ls : List (List Cx)} {p n : Nat} (h : RdJ (s.extract p s.size) nm ls n) (hn : n ≠ 0) (f : Nat) : recF s (f + 1) p = ((nm, ls) :: (recF s f (p + n)).1, (recF s f (p + n)).2) := by
  rcases h with ⟨h, rfl, rfl, rfl⟩ | ⟨_, _, _, h⟩
  · rw [recF, if_pos h]
  · exact absurd h hn
theorem recF_len (s : ByteArray) : ∀ f p, (recF s f p).1.length ≤ f
  | 0, p => Nat.le_refl _
  | f + 1, p => by
    rw [recF]
    split
    · have := recF_len s f
      simp only [List.length_cons]
      exact Nat.succ_le_succ (this _)
    · simp
theorem Rd.rdj {s : ByteArray} (h : Rd s) : RdJ s (pNm s) (pLps s (pLoops s)) (qAt s (pLoops s) + 2) := .inl ⟨h, rfl, rfl, rfl⟩
theorem recF_fits (s : ByteArray) : ∀ f p o, o ∈ (recF s f p).1 → Fits o.2
  | 0, p, o, h => by simp [recF] at h
  | f + 1, p, o, h => by
    rw [recF] at h
    split at h
    · rename_i hr
      rcases List.mem_cons.1 h with rfl | h
      · exact hr.rdj.fits
      · exact recF_fits s f _ o h
    · simp at h
/-- the state of the walk: os read, p reached -/
def RecAt (s : ByteArray) (os : List Ol) (p : Nat) : Prop := os.length ≤ 8 ∧ p ≤ s.size ∧ os ++ (recF s (8 - os.length) p).1 = (recF s 8 0).1 ∧ (recF s (8 - os.length) p).2 = (recF s 8 0).2
theorem RecAt.zero (s : ByteArray) : RecAt s [] 0 := ⟨by simp, Nat.zero_le _, rfl, rfl⟩
theorem RecAt.full {s : ByteArray} {os : List Ol} {p : Nat} (h : RecAt s os p) (h8 : os.length = 8) : (recF s 8 0).1 = os ∧ (recF s 8 0).2 = p := by
  obtain ⟨_, _, h3, h4⟩ := h
  rw [h8] at h3 h4
  exact ⟨by rw [← h3]; simp [recF], by rw [← h4]; simp [recF]⟩
theorem RecAt.stop {s nm : ByteArray} {ls : List (List Cx)} {os : List Ol} {p : Nat} (h : RecAt s os p) (hr : RdJ (s.extract p s.size) nm ls 0) : (recF s 8 0).1 = os ∧ (recF s 8 0).2 = p := by
  obtain ⟨_, _, h3, h4⟩ := h
  rw [recF_no hr] at h3 h4
  exact ⟨by rw [← h3]; simp, by rw [← h4]⟩
theorem RecAt.step {s nm : ByteArray} {ls : List (List Cx)} {os : List Ol} {p n : Nat} (h : RecAt s os p) (hr : RdJ (s.extract p s.size) nm ls n) (hn : n ≠ 0) (h8 : os.length < 8) : RecAt s (os ++ [(nm, ls)]) (p + n) := by
  obtain ⟨_, h2, h3, h4⟩ := h
  have hle := hr.le
  rw [ByteArray.size_extract] at hle
  have e : 8 - os.length = (8 - (os ++ [(nm, ls)]).length) + 1 := by simp; omega
  rw [e, recF_yes hr hn] at h3 h4
  exact ⟨by simp; omega, by omega, by rw [← h3]; simp, h4⟩
def olAt (os : List Ol) (i : Nat) : Ol := os.getD i (⟨#[]⟩, [])
theorem olAt_app (os : List Ol) (o : Ol) {i : Nat} (hi : i < os.length) : olAt (os ++ [o]) i = olAt os i := by simp [olAt, List.getElem?_append_left hi]
theorem olAt_last (os : List Ol) (o : Ol) : olAt (os ++ [o]) os.length = o := by simp [olAt]
theorem olAt_mem {os : List Ol} {i : Nat} (hi : i < os.length) : olAt os i ∈ os := by
  have : olAt os i = os[i] := by simp [olAt, hi]
  rw [this]; exact List.getElem_mem hi
/-- the cells of the first n outlines' row -/
def oCells (os : List Ol) (a : Nat → Option Addr) (c : Nat → Nat) : Nat → List Value
  | 0 => []
  | n + 1 => oCells os a c n ++ [.string (olAt os n).1, .slice (a n) (olAt os n).2.length (c n)]
theorem oCells_len (os : List Ol) (a : Nat → Option Addr) (c : Nat → Nat) : ∀ n, (oCells os a c n).length = n * 2
  | 0 => rfl
  | n + 1 => by rw [oCells, List.length_append, oCells_len os a c n]; simp; omega
theorem oCells_at (os : List Ol) (a : Nat → Option Addr) (c : Nat → Nat) : ∀ n i, i < n → (oCells os a c n)[i * 2]? = some (.string (olAt os i).1) ∧ (oCells os a c n)[i * 2 + 1]? = some (.slice (a i) (olAt os i).2.length (c i))
  | 0, i, h => absurd h (Nat.not_lt_zero _)
  | n + 1, i, h => by
    have hl := oCells_len os a c n
    rw [oCells]
    by_cases hin : i = n
    · subst hin
      rw [List.getElem?_append_right (by omega), List.getElem?_append_right (by omega), hl]
      simp
    · have := oCells_at os a c n i (by omega)
      rw [List.getElem?_append_left (by omega), List.getElem?_append_left (by omega)]
      exact this
theorem oCells_congr {os os' : List Ol} {a a' : Nat → Option Addr} {c c' : Nat → Nat} : ∀ n, (∀ i, i < n → olAt os i = olAt os' i ∧ a i = a' i ∧ c i = c' i) → oCells os a c n = oCells os' a' c' n
  | 0, _ => rfl
  | n + 1, h => by
    obtain ⟨h1, h2, h3⟩ := h n (by omega)
    rw [oCells, oCells, oCells_congr n (fun i hi => h i (by omega)), h1, h2, h3]
/-- a row of outlines that the walk makes: all blocks lie from base up to top -/
def OsAt (w : World) (T T1 : TypeId) (base top b cap : Nat) (os : List Ol) : Prop :=
  base ≤ b ∧ b < top ∧ ∃ (a : Nat → Option Addr) (c lo hi : Nat → Nat), ORow w T 2 b cap os.length (oCells os a c os.length) ∧
    ∀ i, i < os.length → base ≤ lo i ∧ lo i ≤ hi i ∧ hi i ≤ top ∧ (b < lo i ∨ hi i ≤ b) ∧ LsAt w T1 (lo i) (hi i) (a i) (c i) (olAt os i).2 ∧ ∀ j, j < i → hi j ≤ lo i
theorem OsAt.far {w w' : World} {T T1 : TypeId} {base top b cap : Nat} {os : List Ol} (h : OsAt w T T1 base top b cap os) (hf : Far base top w w') : OsAt w' T T1 base top b cap os := by
  obtain ⟨h1, h2, a, c, lo, hi, h3, h4⟩ := h
  exact ⟨h1, h2, a, c, lo, hi, h3.far hf h1 h2, fun i hi' => by
    obtain ⟨q1, q2, q3, q4, q5, q6⟩ := h4 i hi'
    exact ⟨q1, q2, q3, q4, q5.far (fun k k1 k2 => hf k (by omega) (by omega)), q6⟩⟩
theorem OsAt.mono {w : World} {T T1 : TypeId} {base top top' b cap : Nat} {os : List Ol} (h : OsAt w T T1 base top b cap os) (ht : top ≤ top') : OsAt w T T1 base top' b cap os := by
  obtain ⟨h1, h2, a, c, lo, hi, h3, h4⟩ := h
  exact ⟨h1, by omega, a, c, lo, hi, h3, fun i hi' => by
    obtain ⟨q1, q2, q3, q4, q5, q6⟩ := h4 i hi'
    exact ⟨q1, q2, by omega, q4, q5, q6⟩⟩
theorem OsAt.new (w : World) (T T1 : TypeId) (base top : Nat) (h1 : base ≤ w.heap.size) (h2 : w.heap.size < top) : OsAt (w.alloc (.cells #[] T)) T T1 base top w.heap.size 0 [] :=
  ⟨h1, h2, fun _ => none, fun _ => 0, fun _ => 0, fun _ => 0, ORow.new w T 2, fun _ hi => absurd hi (Nat.not_lt_zero _)⟩
/-- one more outline put behind the others -/
theorem OsAt.push {w0 w1 : World} {T T1 : TypeId} {base top b b' cap' : Nat} {os : List Ol} {o : Ol} {ao : Option Addr} {co lo1 hi1 : Nat}
    (h1 : base ≤ b) (h2 : b < top) {a : Nat → Option Addr} {c lo hi : Nat → Nat} (h4 : ∀ i, i < os.length → base ≤ lo i ∧ lo i ≤ hi i ∧ hi i ≤ top ∧ (b < lo i ∨ hi i ≤ b) ∧ LsAt w0 T1 (lo i) (hi i) (a i) (c i) (olAt os i).2 ∧ ∀ j, j < i → hi j ≤ lo i)
    (ho : LsAt w0 T1 lo1 hi1 ao co o.2) (ht : top ≤ lo1) (hlh : lo1 ≤ hi1) (hw : hi1 ≤ w0.heap.size)
    (hr : ORow w1 T 2 b' cap' (os.length + 1) (oCells os a c os.length ++ [.string o.1, .slice ao o.2.length co])) (hb : b' = b ∨ w0.heap.size < b') (hb' : b' < w1.heap.size) (hg : Grew b w0 w1) : OsAt w1 T T1 base w1.heap.size b' cap' (os ++ [o]) := by
  have hs := hg.size
  refine ⟨by omega, hb', fun i => if i = os.length then ao else a i, fun i => if i = os.length then co else c i, fun i => if i = os.length then lo1 else lo i, fun i => if i = os.length then hi1 else hi i, ?_, fun i hi' => ?_⟩
  · have e1 : (os ++ [o]).length = os.length + 1 := by simp
    rw [e1, oCells, olAt_last]
    simp only [if_true]
    rw [oCells_congr (os' := os) (a' := a) (c' := c) os.length (fun i hi => by
      have hne : i ≠ os.length := by omega
      exact ⟨olAt_app os o hi, by simp [hne], by simp [hne]⟩)]
    exact hr
  · have hi2 : i < os.length + 1 := by simpa using hi'
    by_cases hil : i = os.length
    · subst hil
      rw [olAt_last]
      simp only [if_true]
      refine ⟨by omega, hlh, by omega, by omega, ho.far (hg.far hw (.inr (by omega))), fun j hj => ?_⟩
      rw [if_neg (by omega)]
      have := (h4 j hj).2.2.1
      omega
    · have hi3 : i < os.length := by omega
      obtain ⟨q1, q2, q3, q4, q5, q6⟩ := h4 i hi3
      rw [olAt_app os o hi3]
      simp only [if_neg hil]
      refine ⟨q1, q2, by omega, by omega, q5.far (hg.far (by omega) (by omega)), fun j hj => ?_⟩
      rw [if_neg (by omega)]
      exact q6 j hj
/-- the row reads as the outlines -/
def SlO (w : World) (lo hi b : Nat) (os : List Ol) : Prop := lo ≤ b ∧ b < hi ∧ ∀ i, i < os.length → ∃ ai ci, w.cell? ⟨b, i * 2, none⟩ = some (.string (olAt os i).1) ∧ w.cell? ⟨b, i * 2 + 1, none⟩ = some (.slice ai (olAt os i).2.length ci) ∧ SlL w lo hi ai (olAt os i).2
theorem OsAt.slO {w : World} {T T1 : TypeId} {base top b cap : Nat} {os : List Ol} (h : OsAt w T T1 base top b cap os) : SlO w base top b os := by
  obtain ⟨h1, h2, a, c, lo, hi, h3, h4⟩ := h
  refine ⟨h1, h2, fun i hi' => ?_⟩
  obtain ⟨q1, q2, q3, q4, q5, q6⟩ := h4 i hi'
  have hc := oCells_at os a c os.length i hi'
  exact ⟨a i, c i, (h3.cell (i * 2) (by omega)).trans hc.1, (h3.cell (i * 2 + 1) (by omega)).trans hc.2, q5.slL.mono q1 q3⟩
theorem SlO.far {w w' : World} {lo hi b : Nat} {os : List Ol} (h : SlO w lo hi b os) (hf : Far lo hi w w') : SlO w' lo hi b os := by
  obtain ⟨h1, h2, h3⟩ := h
  refine ⟨h1, h2, fun i hi' => ?_⟩
  obtain ⟨ai, ci, c1, c2, c3⟩ := h3 i hi'
  exact ⟨ai, ci, (hf.cell h1 h2).trans c1, (hf.cell h1 h2).trans c2, c3.far hf⟩
end Go.Fl

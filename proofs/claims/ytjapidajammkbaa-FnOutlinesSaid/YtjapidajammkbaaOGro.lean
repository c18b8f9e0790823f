/- An append onto a full row that is only read (a constant's bytes). -/
import Derived.Test.YtjapidajammkbaaOApp
import Derived.Deep.AppendSrc
import Derived.Lib.SlBytesConst
namespace Go.Fl
open Go.RowKit
theorem wpList_appG {P : Program} {ops : Array Oper} {rest : List Oper} {o : Oper} {a : Act} {w : World} {Q : Exit → Act → World → Prop} (hgd : o.guard = none) (s x : Operand) (t : TypeId)
    (ho : o.op = .call { callee := .builtin .append, args := #[s, x], argTypes := #[t, t] })
    (e : TypeId) (ht : P.underlying t = some (.slice e)) (hinfo : (P.info? e).map (fun i => (i.zero, i.size, i.bytes)) = some (some (.int .u8 0), 1, 1))
    (b n : Nat) (olds : List Value) (hs : a.eval s = .slice (some ⟨b, 0, none⟩) n n) (hol : olds.length = n) (holds : ∀ (j : Nat) u, olds[j]? = some u → w.cell? ⟨b, j, none⟩ = some u)
    (nb m c : Nat) (news : List Value) (hx : a.eval x = .slice (some ⟨nb, 0, none⟩) m c) (hl : news.length = m) (hnews : ∀ (j : Nat) u, news[j]? = some u → w.cell? ⟨nb, j, none⟩ = some u) (h1 : ∀ u ∈ news, u.oneCell' = true)
    (hm : 0 < m) (hn : n + m ≤ 1048576)
    (h : ∀ b' cap' w1, ORow w1 e 1 b' cap' (n + m) (olds ++ news) → w.heap.size ≤ b' → Below w.heap.size w w1 → wpList P ops Q rest (a.put o.dst (.slice (some ⟨b', 0, none⟩) (n + m) cap')) w1) : wpList P ops Q (o :: rest) a w := by
  obtain ⟨i, hi, hzz⟩ := Option.map_eq_some_iff.1 hinfo
  simp only [Prod.mk.injEq] at hzz
  obtain ⟨hz, hs1, hb1⟩ := hzz
  have hadd : ∀ (q j : Nat), (⟨q, 0, none⟩ : Addr).add j = ⟨q, j, none⟩ := fun q j => by unfold Addr.add; split <;> simp_all
  refine wpList_plain hgd fun K hK => ?_
  have hsrc : Src P i.size t (.slice (some ⟨nb, 0, none⟩) m c) m news w := by
    rw [hs1]
    exact Src.ofSlice w ht ⟨nb, 0, none⟩ m c news (by omega) (fun j u hj => by rw [hadd]; exact hnews j u hj) h1
  have hold : (Builtin.firstCells i.size n (.slice (some ⟨b, 0, none⟩) n n)).run P w.drew = .ok olds.toArray w.drew := by
    rw [hs1]
    exact run_firstCells_some w.drew 1 n ⟨b, 0, none⟩ n n olds (by omega) (fun j u hj => by rw [hadd]; exact holds j u hj)
  have hr := run_append_grow_src (P := P) w t t o.type e i (.int .u8 0) ht hi hz (some ⟨b, 0, none⟩) n n olds hold _ m news hsrc (by omega) (by omega) (by rw [hb1]; exact growslice_fits (by omega) (by omega))
  unfold Oper.wp execOp
  simp only [ho, resolve, invoke, builtin, Sem.run_bind, Sem.run_pure, Result.andThen_ok, List.map_toArray, List.map_cons, List.map_nil, hs, hx, hr]
  have hge := grownCap_ge w (n + m) n e
  have hcm : grownCap w (n + m) n e ≤ maxLen := grownCap_le_maxLen w (n + m) n e (by simp [maxLen]; omega)
  refine hK _ _ (h w.heap.size _ _ ⟨by simp; omega, .inr ⟨w.heap.size, _, _, rfl, Nat.le_refl _, heap_alloc_new w.drew _, hge, hcm, ?_, ?_⟩⟩ (Nat.le_refl _) (Below.alloc (Below.refl _ _).drew (Nat.le_refl _) _))
  · have hz1 : (Value.int IntKind.u8 0).cells.size = 1 := rfl
    simp only [Array.size_append, List.size_toArray, size_zeroCells, hz1, List.length_append]
    omega
  · simp only [Array.toList_append]
    rw [List.take_append_of_le_length (by simp; omega), List.take_of_length_le (by simp; omega)]
end Go.Fl

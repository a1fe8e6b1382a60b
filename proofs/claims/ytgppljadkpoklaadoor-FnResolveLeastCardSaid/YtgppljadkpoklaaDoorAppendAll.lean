/- A slice of ints appended to a row of the call's own, as one law for the walk. -/
import Derived.Test.YtgppljadkpoklaaDoorAppend
import Derived.Laws.AppendOwnNone
namespace Go.Proofs.YtgppljadkpoklaaDoor
open Go.RowKit

theorem wpList_append_ints {ops : Array Oper} {rest : List Oper} {o : Oper} {a : Act} {Q : Exit → Act → World → Prop} {w : World} (hgd : o.guard = none) (s x : Operand)
    (ho : o.op = .call { callee := .builtin .append, args := #[s, x], argTypes := #[24, 24] }) (B lo hi : Nat) (v vx : Value) (n : Nat) (L M : List Int)
    (hown : w.ownsRow B 3 1 v n (L.map (Value.int .i64))) (hs : a.eval s = v) (hx : a.eval x = vx) (hox : OwnI lo hi w vx M) (h63 : n + M.length ≤ 1000000000) (hbase : B ≤ w.heap.size)
    (h : ∀ v' w', w'.ownsRow B 3 1 v' (n + M.length) ((L ++ M).map (Value.int .i64)) → w.grownBy w' v.ownBlock → wpList Tryd.prog ops Q rest (a.put o.dst v') w') :
    wpList Tryd.prog ops Q (o :: rest) a w := by
  obtain ⟨i0, hi0, hz0, hz1, hz2⟩ := info_parts intInfo
  rcases hox.row.2 with ⟨rfl, h0⟩ | ⟨g, cap, cur, rfl, h1, h2, h3⟩
  · have : M = [] := List.length_eq_zero_iff.1 h0
    subst this
    refine wpList_append_own_none hgd s x 24 ho B 3 i0 1 Tryd.underlying24 hi0 v n _ hs hown hx ?_
    exact h v w (by simpa using hown) (World.grownBy.refl _ _)
  · refine wpList_append_own _ hgd s x 24 ho B 3 i0 (.int .i64 0) 1 8 Tryd.underlying24 hi0 hz0 hz1 hz2 rfl (by decide) v n _ hs hown ⟨g, 0, none⟩ M.length cap (M.map (Value.int .i64)) hx (by simp) ?_ (by intro u hu; obtain ⟨z, _, rfl⟩ := List.mem_map.1 hu; rfl) (by unfold maxLen; omega) (by omega) hbase ?_
    · intro j u hj
      have hlt : j < M.length := by
        rcases Nat.lt_or_ge j M.length with h | h
        · exact h
        · rw [List.getElem?_eq_none (by simpa using h)] at hj; cases hj
      have e : (⟨g, 0, none⟩ : Addr).add j = ⟨g, j, none⟩ := by simp [Addr.add]; omega
      rw [e, hox.row.cellAt j (by omega), hj]
    · intro v' w' h4 h5 _
      exact h v' w' (by simpa using h4) h5
end Go.Proofs.YtgppljadkpoklaaDoor

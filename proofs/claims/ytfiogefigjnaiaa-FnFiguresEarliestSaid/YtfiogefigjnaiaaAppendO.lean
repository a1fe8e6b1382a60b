/- One int appended to a row of the call's own or to an empty slice without room, as one law for the walk. -/
import Derived.Test.YtfiogefigjnaiaaAppendAll
import Derived.ArgAppend
namespace Go.Proofs.Ytfiogefigjnaiaa
open Go.RowKit

/-- A row of the call's own, or an empty slice without room. -/
def OwnOr (B : Nat) (w : World) (v : Value) (n : Nat) (L : List Int) : Prop := (n = 0 ∧ L = [] ∧ ∃ a, v = .slice a 0 0) ∨ w.ownsRow B 3 1 v n (L.map (Value.int .i64))
theorem wpList_append_intO {ops : Array Oper} {rest : List Oper} {o : Oper} {a : Act} {Q : Exit → Act → World → Prop} {w : World} (hgd : o.guard = none) (s x : Operand)
    (ho : o.op = .call { callee := .builtin .append, args := #[s, x], argTypes := #[23, 23] }) (B : Nat) (v : Value) (n : Nat) (L : List Int) (z : Int)
    (hown : OwnOr B w v n L) (hs : a.eval s = v) (hx : a.eval x = .slice (some ⟨w.heap.size, 0, none⟩) 1 1) (h63 : n ≤ 1000000000) (hbase : B ≤ w.heap.size)
    (h : ∀ v' w' row, w'.ownsRow B 3 1 v' (n + 1) ((L ++ [z]).map (Value.int .i64)) → w.grownBy w' row → (∀ k, row = some k → B ≤ k) → wpList Try.prog ops Q rest (a.put o.dst v') w') :
    wpList Try.prog ops Q (o :: rest) a (w.alloc (.cells #[.int .i64 z] 3)) := by
  rcases hown with ⟨rfl, rfl, ad, rfl⟩ | hown
  · obtain ⟨i0, hi, hz0, hz1, hz2⟩ := info_parts intInfo
    refine wpList_append_grows _ hgd s x 23 ho 3 i0 (.int .i64 0) 1 8 Try.underlying23 hi hz0 hz1 hz2 rfl (by decide) ad 0 0 [] hs (fun _ => ⟨rfl, rfl⟩) rfl (fun b _ j u hj => by simp at hj) ⟨w.heap.size, 0, none⟩ 1 1 [.int .i64 z] hx rfl (cell_one_new _ _ _) (by intro u hu; simp at hu; subst hu; rfl) (by omega) (by unfold maxLen; omega) (by omega) ?_
    intro v' w' h1 h2
    refine h v' w' none ⟨by simp, ?_⟩ (grownBy_trans (World.grownBy_alloc w _ none) h2) (fun k hk => by cases hk)
    rcases h1.2 with ⟨_, h0⟩ | ⟨g, cap, cur, e, h3, h4, h5⟩
    · omega
    · exact .inr ⟨g, cap, cur, e, Nat.le_trans hbase (Nat.le_trans (by simp) h3), h4, by simpa using h5⟩
  · refine wpList_append_int hgd s x ho B v n L z hown hs hx h63 hbase ?_
    intro v' w' h1 h2
    exact h v' w' _ (by simpa using h1) h2 (fun k hk => (hown.lt k hk).1)
end Go.Proofs.Ytfiogefigjnaiaa

/- The program's OrderOf gives ordS. -/
import Derived.Test.YtbecdndeddkibaaOrderPlain
import Derived.Test.YtbecdndeddkibaaInverse
import Derived.Test.YtbecdndeddkibaaShelf
import Derived.Laws.IdiomCopy
namespace Go.Proofs.Ytbecdndeddkibaa
open Go.RowKit
set_option maxHeartbeats 1000000
set_option maxRecDepth 100000

theorem set_splice {α : Type} (xs : List α) (o : Nat) (v : α) (r : List α) (h : o < xs.length) : (xs.set o v).take (o + 1) ++ r ++ (xs.set o v).drop (o + 1 + r.length) = xs.take o ++ (v :: r) ++ xs.drop (o + (v :: r).length) := by
  have e1 : (xs.set o v).take (o + 1) = xs.take o ++ [v] := by
    rw [List.take_succ_eq_append_getElem (by simpa using h)]
    simp [List.take_set_of_le]
  have e2 : (xs.set o v).drop (o + 1 + r.length) = xs.drop (o + (v :: r).length) := by
    rw [List.drop_set_of_lt (by omega)]
    congr 1
    simp; omega
  rw [e1, e2]; simp
theorem owns_setCells {b e g n cap : Nat} : ∀ (vs : List Value) (o : Nat) (w : World) (xs : List Value), o + vs.length ≤ n → w.ownsRow b e 1 (.slice (some ⟨g, 0, none⟩) n cap) n xs →
    (w.setCells g o vs).ownsRow b e 1 (.slice (some ⟨g, 0, none⟩) n cap) n (xs.take o ++ vs ++ xs.drop (o + vs.length)) ∧ w.grownBy (w.setCells g o vs) (some g)
  | [], o, w, xs, _, h => ⟨by simpa [World.setCells] using h, World.grownBy.refl _ _⟩
  | v :: r, o, w, xs, hl, h => by
    have hx : xs.length = n := by simpa using h.1
    have h1 := h.stored o v
    have h2 := owns_setCells r (o + 1) (w.setCell ⟨g, o, none⟩ v) (xs.set o v) (by simp at hl; omega) h1.1
    rw [set_splice xs o v r (by simp at hl; omega)] at h2
    exact ⟨h2.1, grownBy_trans h1.2 h2.2⟩

def natI (O : List Nat) : List Int := O.map (fun i : Nat => (i : Int))
structure OrdRow (w wr : World) (g n cap : Nat) (O : List Nat) : Prop where
  len : O.length = n
  row : wr.ownsRow w.heap.size 3 1 (.slice (some ⟨g, 0, none⟩) n cap) n ((natI O).map (Value.int .i64))
  below : Below w.heap.size w wr
theorem OrdRow.cell {w wr : World} {g n cap : Nat} {O : List Nat} (h : OrdRow w wr g n cap O) (j : Nat) (hj : j < n) : wr.cell? ⟨g, j, none⟩ = some (.int .i64 ((O.getD j 0 : Nat) : Int)) := by
  have hl := h.len
  rw [h.row.cellAt j (by omega)]
  simp [natI, List.getD_eq_getElem?_getD, hl, hj]
theorem OrdRow.free {w wr : World} {g n cap : Nat} {O : List Nat} (h : OrdRow w wr g n cap O) (j : Nat) : wr.frozen? ⟨g, j, none⟩ = false := h.row.frozenAt j
/-- Reversing the cells from f to t. -/
theorem OrdRow.rev {w wr : World} {g n cap : Nat} {O : List Nat} (h : OrdRow w wr g n cap O) (f t q : Nat) (hft : f ≤ t) (ht : t ≤ n) :
    OrdRow w ((wr.drewN q).setCells g f ((((natI O).drop f).take (t - f)).reverse.map (Value.int .i64))) g n cap (revRun O f t) := by
  have hl := h.len
  have hlen : (((natI O).drop f).take (t - f)).length = t - f := by simp [natI]; omega
  have hr : (wr.drewN q).ownsRow w.heap.size 3 1 (.slice (some ⟨g, 0, none⟩) n cap) n ((natI O).map (Value.int .i64)) := h.row
  have h2 := owns_setCells ((((natI O).drop f).take (t - f)).reverse.map (Value.int .i64)) f (wr.drewN q) _ (by rw [List.length_map, List.length_reverse, hlen]; omega) hr
  refine ⟨by rw [revRun_len _ _ _ hft (by omega)]; exact hl, ?_, (below_drewN h.below q).grown h2.2 h.below.size (fun k hk => by injection hk with hk; subst hk; exact (h.row.lt g rfl).1)⟩
  have e : (natI O |>.map (Value.int .i64)).take f ++ ((((natI O).drop f).take (t - f)).reverse.map (Value.int .i64)) ++ ((natI O).map (Value.int .i64)).drop (f + ((((natI O).drop f).take (t - f)).reverse.map (Value.int .i64)).length) = (natI (revRun O f t)).map (Value.int .i64) := by
    rw [List.length_map, List.length_reverse, hlen, show f + (t - f) = t by omega]
    simp [natI, revRun, List.map_take, List.map_drop]
  rw [← e]
  exact h2.1
end Go.Proofs.Ytbecdndeddkibaa

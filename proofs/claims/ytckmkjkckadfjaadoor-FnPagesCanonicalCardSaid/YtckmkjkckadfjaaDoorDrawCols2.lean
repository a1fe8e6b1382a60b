/- What the laws over columns draw. -/
import Derived.Test.YtckmkjkckadfjaaDoorDrawCols
namespace Go.Proofs.YtckmkjkckadfjaaDoor
open Go.RowKit
set_option maxHeartbeats 1000000
set_option maxRecDepth 100000

/-- One of some numbers written out. -/
theorem one_lit (rb P : Nat) (zs : List Int) (w : World) (T : TypeId) (hn : 1 ≤ zs.length) (hn2 : zs.length ≤ 1000000) (hP : P ≤ 900000) (hR : Rdr w rb P) :
    Calls Tryd.prog 30 #[.pointer (some ⟨rb, 0, none⟩), .slice (some ⟨w.heap.size, 0, none⟩) zs.length zs.length] (w.alloc (.cells (zs.map (Value.int .i64)).toArray T)) fun e w' => ∃ z, z ∈ zs ∧ e = .returned (.int .i64 z) ∧ Rdr w' rb (P + 1) ∧ Keeps rb w w' := by
  have hb := Below.alloc (Below.refl w.heap.size w) (Nat.le_refl _) (.cells (zs.map (Value.int .i64)).toArray T)
  refine (one_any rb P w.heap.size 0 zs.length zs.length (fun i => zs.getD i 0) _ hn hn2 hP (hR.below hb) (by simp) (by have := hR.lies; omega) (fun i hi => new_row w zs T i hi)).mono ?_
  rintro e w' ⟨i, hi, rfl, hR2, hK2⟩
  exact ⟨_, getD_mem zs i hi, rfl, hR2, (Keeps.of_below hR.lies hb).trans hK2⟩

def DrewLI (m : Nat) (zs : List Int) (w : World) (e : Ending) (w' : World) : Prop := ∃ (v : Value) (L : List Int) (z : Int), L.length ≤ m ∧ z ∈ zs ∧ e = .returned (.tuple #[v, .int .i64 z]) ∧ OwnI w.heap.size w'.heap.size w' v L ∧ Below w.heap.size w w'
theorem own_keeps {rb lo hi : Nat} {w w' : World} {v : Value} {L : List Int} (h : OwnI lo hi w v L) (hk : Keeps rb w w') (hB : rb < lo) : OwnI lo hi w' v L :=
  ⟨owns_keeps h.row hk hB, h.top, Nat.le_trans h.fits hk.below.size⟩

def DrewLL (m m2 : Nat) (w : World) (e : Ending) (w' : World) : Prop := ∃ (v u : Value) (L E : List Int), L.length ≤ m ∧ E.length ≤ m2 ∧ e = .returned (.tuple #[v, u]) ∧ OwnI w.heap.size w'.heap.size w' v L ∧ OwnI w.heap.size w'.heap.size w' u E ∧ Below w.heap.size w w'
theorem slice_len {lo hi : Nat} {w : World} {v : Value} {L : List Int} (h : OwnI lo hi w v L) : ∃ a c, v = .slice a L.length c := by
  obtain ⟨a, c, e, _⟩ := h.sl; exact ⟨a, c, e⟩
def DrewLIL (m m2 : Nat) (w : World) (e : Ending) (w' : World) : Prop := ∃ (v u : Value) (L E : List Int) (c : Nat), L.length ≤ m ∧ E.length ≤ m2 ∧ 1 ≤ c ∧ c ≤ 5 ∧ e = .returned (.tuple #[v, .int .i64 c, u]) ∧ OwnI w.heap.size w'.heap.size w' v L ∧ OwnI w.heap.size w'.heap.size w' u E ∧ Below w.heap.size w w'
end Go.Proofs.YtckmkjkckadfjaaDoor

/- One of some strings; a string with a byte replaced, cut or added. -/
import Derived.Test.YtflnbpiegcepcaaDraws
import Derived.Deep.RegionWith
namespace Go.Proofs.Ytflnbpiegcepcaa
open Go.RowKit
set_option maxHeartbeats 400000

/-- A string that is not too long. -/
def SomeStr (n : Nat) (rb P : Nat) (w : World) (e : Ending) (w' : World) : Prop := ∃ s : ByteArray, s.size ≤ n ∧ e = .returned (.string s) ∧ Rdr w' rb P ∧ Keeps rb w w'
theorem of_any (rb P sb off : Nat) (n cap m : Nat) (z : Nat → ByteArray) (w : World) (hn : 1 ≤ n) (hn2 : n ≤ 1000000) (hP : P ≤ 900000) (hR : Rdr w rb P) (hs : sb < w.heap.size) (hsr : sb ≠ rb)
    (hc : ∀ i, i < n → w.cell? ⟨sb, off + i, none⟩ = some (.string (z i)) ∧ (z i).size ≤ m) :
    Calls Try.prog 21 #[.pointer (some ⟨rb, 0, none⟩), .slice (some ⟨sb, off, none⟩) n cap] w (SomeStr m rb (P + 1) w) := by
  go_enter Try.func21, Try.ntmps21
  go_wp2_with (go_at_call 20; refine (pick_pos rb P n _ (by omega) hP hR).mono ?_; rintro e w1 ⟨v, hv, rfl, hR1, hK1⟩; have hcv : w1.cell? ⟨sb, off + v, none⟩ = some (.string (z v)) := (hK1.cell hs hsr).trans (hc v (by omega)).1)
  go_ret
  exact ⟨z v, (hc v (by omega)).2, rfl, hR1, hK1⟩

theorem new_srow (w : World) (L : List ByteArray) (T : TypeId) (i : Nat) (h : i < L.length) : (w.alloc (.cells (L.map Value.string).toArray T)).cell? ⟨w.heap.size, 0 + i, none⟩ = some (.string (L.getD i ByteArray.empty)) := by
  rw [World.cell?_alloc_new, Nat.zero_add]
  simp [h, List.getD_eq_getElem?_getD]
/-- One of the strings of a new row. -/
theorem of_new (rb P : Nat) (L : List ByteArray) (n m : Nat) (w : World) (hl : L.length = n) (hn : 1 ≤ n) (hn2 : n ≤ 1000000) (hP : P ≤ 900000) (hR : Rdr w rb P) (hm : ∀ s ∈ L, s.size ≤ m) (T : TypeId) :
    Calls Try.prog 21 #[.pointer (some ⟨rb, 0, none⟩), .slice (some ⟨w.heap.size, 0, none⟩) n n] (w.alloc (.cells (L.map Value.string).toArray T)) (SomeStr m rb (P + 1) w) := by
  subst hl
  have hb := Below.alloc (Below.refl w.heap.size w) (Nat.le_refl _) (.cells (L.map Value.string).toArray T)
  refine (of_any rb P w.heap.size 0 L.length L.length m (fun i => L.getD i ByteArray.empty) _ hn hn2 hP (hR.below hb) (by simp) (by have := hR.lies; omega) (fun i hi => ⟨new_srow w L T i hi, ?_⟩)).mono ?_
  · refine hm _ ?_
    show L.getD i ByteArray.empty ∈ L
    rw [List.getD_eq_getElem?_getD, List.getElem?_eq_getElem hi]
    exact List.getElem_mem _
  · rintro e w1 ⟨s, hs, he, hR1, hK⟩
    exact ⟨s, hs, he, hR1, (Keeps.of_below hR.lies hb).trans hK⟩

end Go.Proofs.Ytflnbpiegcepcaa

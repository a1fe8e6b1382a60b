/- The reader made out of a code; one of some numbers; the numbers that the laws over numerals draw lie in -1 to 4000. -/
import Derived.Test.YtckmkjkckadfjaaDoorReader
import Derived.OpenShut
namespace Go.Proofs.YtckmkjkckadfjaaDoor
open Go.RowKit
set_option maxHeartbeats 400000

theorem getD_mem (l : List Int) (i : Nat) (h : i < l.length) : l.getD i 0 ∈ l := by
  rw [List.getD_eq_getElem?_getD, List.getElem?_eq_getElem h]
  exact List.getElem_mem _

/-- A slice of integers that came in: nil, or a row of cells. -/
def RowIn (k : IntKind) (w : World) (a : Option Addr) (len cap : Nat) (zs : List Int) : Prop :=
  (a = none ∧ len = 0 ∧ cap = 0 ∧ zs = []) ∨
  ∃ x, a = some x ∧ len ≤ cap ∧ cap ≤ maxLen ∧ zs.length = cap ∧ (∀ i, i < zs.length → w.cell? (x.add i) = some (.int k (zs.getD i 0))) ∧ ∀ n ∈ zs, (Lit.int k n).wf = true

theorem lt_of_cell {w : World} {b o : Nat} {v : Value} (h : w.cell? ⟨b, o, none⟩ = some v) : b < w.heap.size := by
  by_cases hb : b < w.heap.size
  · exact hb
  · have : w.heap[b]? = none := by simp; omega
    simp [World.cell?, this] at h

/-- The row of a slice that is not empty. -/
theorem RowIn.open {k : IntKind} {w : World} {a : Option Addr} {len cap : Nat} {zs : List Int} (h : RowIn k w a len cap zs) (hl : 0 < len) :
    ∃ b off, a = some ⟨b, off, none⟩ ∧ b < w.heap.size ∧ len ≤ cap ∧ cap ≤ maxLen ∧ zs.length = cap ∧ (∀ i, i < cap → w.cell? ⟨b, off + i, none⟩ = some (.int k (zs.getD i 0))) ∧ ∀ n ∈ zs, (Lit.int k n).wf = true := by
  rcases h with ⟨_, h, _⟩ | ⟨x, rfl, h1, h2, h3, hc, hw⟩
  · omega
  · obtain ⟨b, off, rfl, hc'⟩ := ints_at hc (by omega)
    rw [h3] at hc'
    exact ⟨b, off, rfl, lt_of_cell (hc' 0 (by omega)), h1, h2, h3, hc', hw⟩
theorem RowIn.len_le {k : IntKind} {w : World} {a : Option Addr} {len cap : Nat} {zs : List Int} (h : RowIn k w a len cap zs) : len ≤ maxLen ∧ len ≤ cap ∧ zs.length = cap := by
  rcases h with ⟨_, rfl, rfl, rfl⟩ | ⟨x, rfl, h1, h2, h3, hc, hw⟩
  · exact ⟨Nat.zero_le _, Nat.le_refl _, rfl⟩
  · exact ⟨by omega, h1, h3⟩
theorem RowIn.nil {k : IntKind} {w : World} {a : Option Addr} {cap : Nat} {zs : List Int} (h : RowIn k w a 0 cap zs) : cap ≤ maxLen := by
  rcases h with ⟨_, _, rfl, rfl⟩ | ⟨x, rfl, h1, h2, h3, hc, hw⟩
  · exact Nat.zero_le _
  · exact h2
theorem wf_u8 {z : Int} (h : (Lit.int .u8 z).wf = true) : 0 ≤ z ∧ z ≤ 255 := by
  simp [Lit.wf, IntKind.min, IntKind.max, IntKind.signed, IntKind.bits] at h
  omega

def MadeReader (w : World) (e : Ending) (w' : World) : Prop := e = .returned (.pointer (some ⟨w.heap.size, 0, none⟩)) ∧ Rdr w' w.heap.size 0 ∧ Below w.heap.size w w'

/-- What lies in the reader's block behind its making. -/
theorem rdr_new (w : World) (sv : Option Addr) (len cap : Nat) (hl : len ≤ 2000)
    (r : len = 0 ∨ ∃ (b off : Nat) (z : Nat → Int), sv = some ⟨b, off, none⟩ ∧ b < w.heap.size ∧ ∀ i, i < len → w.cell? ⟨b, off + i, none⟩ = some (.int .u8 (z i)) ∧ 0 ≤ z i ∧ z i ≤ 255) (T : TypeId) :
    Rdr (w.alloc (.cells #[.slice sv len cap, .int .i64 0] T)) w.heap.size 0 ∧ Below w.heap.size w (w.alloc (.cells #[.slice sv len cap, .int .i64 0] T)) := by
  refine ⟨⟨by simp, by simp [go_sem], sv, len, cap, 0, Nat.le_refl _, hl, by simp [go_sem], by simp [go_sem], ?_⟩, (Below.refl _ _).alloc (Nat.le_refl _) _⟩
  rcases r with r | ⟨b, off, z, e, hb, hz⟩
  · exact .inl r
  · refine .inr ⟨b, off, z, e, hb, fun i hi => ?_⟩
    exact ⟨(World.cell?_alloc_lt w _ _ hb).trans (hz i hi).1, (hz i hi).2⟩

theorem newReader_any (a : Option Addr) (len cap : Nat) (zs : List Int) (w : World) (h : RowIn .u8 w a len cap zs) :
    Calls Tryd.prog 17 #[.slice a len cap] w (MadeReader w) := by
  obtain ⟨hm, hlc, hz⟩ := h.len_le
  unfold maxLen at hm
  have r : ∀ n, n ≤ len → (n = 0 ∨ ∃ (b off : Nat) (z : Nat → Int), a = some ⟨b, off, none⟩ ∧ b < w.heap.size ∧ ∀ i, i < n → w.cell? ⟨b, off + i, none⟩ = some (.int .u8 (z i)) ∧ 0 ≤ z i ∧ z i ≤ 255) := by
    intro n hn
    by_cases h0 : n = 0
    · exact .inl h0
    · obtain ⟨b, off, e, hb, h1, h2, h3, hc, hw⟩ := h.open (by omega)
      refine .inr ⟨b, off, fun i => zs.getD i 0, e, hb, fun i hi => ⟨hc i (by omega), wf_u8 (hw _ ?_)⟩⟩
      exact getD_mem zs i (by omega)
  have hcap : cap ≤ maxLen := by
    rcases h with ⟨_, _, rfl, rfl⟩ | ⟨x, rfl, h1, h2, h3, hc, hw⟩
    · exact Nat.zero_le _
    · exact h2
  unfold maxLen at hcap
  by_cases h2 : 2000 < len
  · obtain ⟨b, off, rfl, hb, _⟩ := h.open (by omega)
    have R := Lib.hid (r 2000 (by omega))
    clear r h
    go_enter Tryd.func17, Tryd.ntmps17
    go_wp2
    go_ret
    exact ⟨rfl, rdr_new w _ _ _ (Nat.le_refl _) R.out _⟩
  · have R := Lib.hid (r len (Nat.le_refl _))
    clear r h
    go_enter Tryd.func17, Tryd.ntmps17
    go_wp2
    go_ret
    exact ⟨rfl, rdr_new w _ _ _ (by omega) R.out _⟩

/-- One of n numbers that lie in a row of its own. -/
def OneOf (n : Nat) (z : Nat → Int) (rb P : Nat) (w : World) (e : Ending) (w' : World) : Prop := ∃ v : Nat, v < n ∧ e = .returned (.int .i64 (z v)) ∧ Rdr w' rb P ∧ Keeps rb w w'
theorem one_any (rb P sb off : Nat) (n cap : Nat) (z : Nat → Int) (w : World) (hn : 1 ≤ n) (hn2 : n ≤ 1000000) (hP : P ≤ 900000) (hR : Rdr w rb P) (hs : sb < w.heap.size) (hsr : sb ≠ rb)
    (hc : ∀ i, i < n → w.cell? ⟨sb, off + i, none⟩ = some (.int .i64 (z i))) :
    Calls Tryd.prog 30 #[.pointer (some ⟨rb, 0, none⟩), .slice (some ⟨sb, off, none⟩) n cap] w (OneOf n z rb (P + 1) w) := by
  go_enter Tryd.func30, Tryd.ntmps30
  go_wp2_with (go_at_call 27; refine (pick_pos rb P n _ (by omega) hP hR).mono ?_; rintro e w1 ⟨v, hv, rfl, hR1, hK1⟩; have hcv : w1.cell? ⟨sb, off + v, none⟩ = some (.int .i64 (z v)) := (hK1.cell hs hsr).trans (hc v (by omega)))
  go_ret
  exact ⟨v, by omega, rfl, hR1, hK1⟩

/-- The cells of a new row of integers. -/
theorem new_row (w : World) (L : List Int) (T : TypeId) (i : Nat) (h : i < L.length) : (w.alloc (.cells (L.map (Value.int .i64)).toArray T)).cell? ⟨w.heap.size, 0 + i, none⟩ = some (.int .i64 (L.getD i 0)) := by
  rw [World.cell?_alloc_new, Nat.zero_add]
  simp [h, List.getD_eq_getElem?_getD]

def Drawn (lo hi : Int) (rb P : Nat) (w : World) (e : Ending) (w' : World) : Prop := ∃ v : Int, lo ≤ v ∧ v ≤ hi ∧ e = .returned (.int .i64 v) ∧ Rdr w' rb P ∧ Keeps rb w w'
def DrawnIn (lo hi : Int) (w : World) (e : Ending) (w' : World) : Prop := ∃ v : Int, lo ≤ v ∧ v ≤ hi ∧ e = .returned (.int .i64 v) ∧ Below w.heap.size w w'
end Go.Proofs.YtckmkjkckadfjaaDoor

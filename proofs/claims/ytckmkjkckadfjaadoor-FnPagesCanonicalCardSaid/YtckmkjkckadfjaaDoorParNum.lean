/- The number of a page, read by the program. -/
import Derived.Test.YtckmkjkckadfjaaDoorParPlain
import Derived.Test.YtckmkjkckadfjaaDoorRange
import Derived.Test.YtckmkjkckadfjaaDoorShelf
import Derived.Test.YtckmkjkckadfjaaDoorBase
import Derived.Lib.AtoiErrMem
namespace Go.Proofs.YtckmkjkckadfjaaDoor
open Go.RowKit
set_option maxHeartbeats 1000000
set_option maxRecDepth 100000
set_option linter.unusedVariables false

/-- The two errors of the library lie in their variables. -/
structure ErrV (w : World) : Prop where
  syn : ∃ ev, w.cell? ⟨4, 0, none⟩ = some ev ∧ (ev = .nilIface ∨ ∃ te pe, ev = .iface te pe)
  ran : ∃ ev, w.cell? ⟨5, 0, none⟩ = some ev ∧ (ev = .nilIface ∨ ∃ te pe, ev = .iface te pe)
  lt1 : 4 < w.heap.size
  lt2 : 5 < w.heap.size
theorem ErrV.below {w w' : World} (h : ErrV w) (hb : Below w.heap.size w w') : ErrV w' := by
  obtain ⟨e1, c1, k1⟩ := h.syn
  obtain ⟨e2, c2, k2⟩ := h.ran
  exact ⟨⟨e1, ((bcell hb).1 _ _ h.lt1).trans c1, k1⟩, ⟨e2, ((bcell hb).1 _ _ h.lt2).trans c2, k2⟩, Nat.lt_of_lt_of_le h.lt1 hb.size, Nat.lt_of_lt_of_le h.lt2 hb.size⟩
def AtoiR (l : Bs) (w : World) (e : Ending) (w' : World) : Prop :=
  ((∃ v, Lib.atoiAll l = .ok v ∧ e = .returned (.tuple #[.int .i64 v, .nilIface])) ∨ ((∀ v, Lib.atoiAll l ≠ .ok v) ∧ ∃ (x : Int) (T : TypeId) (q : Value), e = .returned (.tuple #[.int .i64 x, .iface T q]))) ∧ Below w.heap.size w w'
theorem atoi_all (s : ByteArray) (w : World) (hs : s.size ≤ 281474976710656) (hE : ErrV w) : Calls Tryd.prog 39 #[.string s] w (AtoiR s.data.toList w) := by
  obtain ⟨e1, c1, k1⟩ := hE.syn
  obtain ⟨e2, c2, k2⟩ := hE.ran
  rcases h : Lib.atoiAll s.data.toList with v | _ | _
  · refine (Tryd.strconv_Atoi_ok s (by omega) v h w).mono ?_
    rintro e w' ⟨rfl, hw⟩
    refine ⟨.inl ⟨v, h, rfl⟩, ?_⟩
    rcases hw with rfl | ⟨t, rfl⟩
    · exact Below.refl _ _
    · exact Lib.bytesWorld_below w _ t
  · refine (Any.strconv_Atoi_syntax Tryd.laysC172 s hs h e1 w c1 k1).mono ?_
    rintro e w' ⟨N, rfl, _, _, hb⟩
    exact ⟨.inr ⟨fun v e => (by rw [h] at e; cases e), _, _, _, rfl⟩, hb⟩
  · refine (Tryd.strconv_Atoi_range s hs h e2 w c2 k2).mono ?_
    rintro e w' ⟨N, rfl, _, _, hb⟩
    exact ⟨.inr ⟨fun v e => (by rw [h] at e; cases e), _, _, _, rfl⟩, hb⟩
def NumP (l : Bs) (w : World) (e : Ending) (w' : World) : Prop := e = .returned (.tuple #[.int .i64 ((pnum l).getD 0), .bool (pnum l).isSome]) ∧ Below w.heap.size w w'
theorem pageNumber_any (s : ByteArray) (w : World) (hs : s.size ≤ 281474976710656) (hE : ErrV w) : Calls Tryd.prog 25 #[.string s] w (NumP s.data.toList w) := by
  have HA := Lib.hid (atoi_all s w hs hE)
  have HYes : Hid (∀ v, Lib.atoiAll s.data.toList = .ok v → 1 ≤ v → v ≤ 3999 → pnum s.data.toList = some v) := Lib.hid (fun v h h1 h2 => by unfold pnum; rw [h]; simp only; rw [if_pos ⟨h1, h2⟩])
  have HNo1 : Hid (∀ v, Lib.atoiAll s.data.toList = .ok v → ¬ (1 ≤ v ∧ v ≤ 3999) → pnum s.data.toList = none) := Lib.hid (fun v h h1 => by unfold pnum; rw [h]; simp only; rw [if_neg h1])
  have HNo2 : Hid ((∀ v, Lib.atoiAll s.data.toList ≠ .ok v) → pnum s.data.toList = none) := Lib.hid (fun h => by
    unfold pnum
    rcases e : Lib.atoiAll s.data.toList with v | _ | _
    · exact absurd e (h v)
    · rfl
    · rfl)
  clear hE
  go_enter Tryd.func25, Tryd.ntmps25
  go_wp2_with fail
  refine HA.out.mono ?_
  rintro e w1 ⟨h, hb⟩
  rcases h with ⟨v, h1, rfl⟩ | ⟨h1, x, T, q, rfl⟩
  · by_cases hv : 1 ≤ v ∧ v ≤ 3999
    · have hd : decide (1 ≤ v ∧ v ≤ 3999) = true := decide_eq_true hv
      have hp := HYes.out v h1 hv.1 hv.2
      have HF : Hid (NumP s.data.toList w (.returned (.tuple #[.int .i64 v, .bool true])) w1) := Lib.hid ⟨by rw [hp]; rfl, hb⟩
      clear h1 hp hv hb
      go_wp2_with (go_at_call 40; refine (within_any _ _ _ _).mono ?_; rintro e w' ⟨rfl, rfl⟩)
      go_ret2
      exact HF.out
    · have hd : decide (1 ≤ v ∧ v ≤ 3999) = false := decide_eq_false hv
      have hp := HNo1.out v h1 hv
      have HF : Hid (NumP s.data.toList w (.returned (.tuple #[.int .i64 0, .bool false])) w1) := Lib.hid ⟨by rw [hp]; rfl, hb⟩
      clear h1 hp hv hb
      go_wp2_with (go_at_call 40; refine (within_any _ _ _ _).mono ?_; rintro e w' ⟨rfl, rfl⟩)
      go_ret2
      exact HF.out
  · have hp := HNo2.out h1
    have HF : Hid (NumP s.data.toList w (.returned (.tuple #[.int .i64 0, .bool false])) w1) := Lib.hid ⟨by rw [hp]; rfl, hb⟩
    clear h1 hp hb
    go_wp2_with fail
    go_ret2
    exact HF.out
end Go.Proofs.YtckmkjkckadfjaaDoor

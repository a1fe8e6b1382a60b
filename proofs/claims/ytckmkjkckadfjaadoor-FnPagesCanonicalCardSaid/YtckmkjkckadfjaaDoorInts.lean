/- Slices of ints: what lies in memory, and the helpers of the laws that copy, compare, mark and hold them. -/
import Derived.Test.YtckmkjkckadfjaaDoorDraws
import Derived.Laws.OwnMore
import Derived.Carry
namespace Go.Proofs.YtckmkjkckadfjaaDoor
open Go.RowKit
set_option maxHeartbeats 400000

theorem intInfo : (Tryd.prog.info? 3).map (fun i => (i.zero, i.size, i.bytes)) = some (some (.int .i64 0), 1, 8) := by kernel_rfl

/-- A slice of ints that can be read: the list L. -/
def SlI (w : World) (v : Value) (L : List Int) : Prop :=
  ∃ a cap, v = .slice a L.length cap ∧ L.length ≤ cap ∧ cap ≤ maxLen ∧ (L = [] ∨ ∃ b off, a = some ⟨b, off, none⟩ ∧ b < w.heap.size ∧ ∀ i, i < L.length → w.cell? ⟨b, off + i, none⟩ = some (.int .i64 (L.getD i 0)))
/-- A slice of ints in a row of the call's own, in a block from lo on and below hi. -/
structure OwnI (lo hi : Nat) (w : World) (v : Value) (L : List Int) : Prop where
  row : w.ownsRow lo 3 1 v L.length (L.map (Value.int .i64))
  top : ∀ k, v.ownBlock = some k → k < hi
  fits : hi ≤ w.heap.size

theorem SlI.below {w w' : World} {v : Value} {L : List Int} (h : SlI w v L) (hb : Below w.heap.size w w') : SlI w' v L := by
  obtain ⟨a, cap, rfl, h1, h2, h3⟩ := h
  refine ⟨a, cap, rfl, h1, h2, ?_⟩
  rcases h3 with h3 | ⟨b, off, e, hbl, hc⟩
  · exact .inl h3
  · exact .inr ⟨b, off, e, Nat.lt_of_lt_of_le hbl hb.size, fun i hi => by rw [(bcell hb).1 _ _ hbl]; exact hc i hi⟩
theorem RowIn.sl {w : World} {a : Option Addr} {len cap : Nat} {zs : List Int} (h : RowIn .i64 w a len cap zs) : SlI w (.slice a len cap) (zs.take len) := by
  have h0 := h.len_le
  have hl : (zs.take len).length = len := by rw [List.length_take]; omega
  refine ⟨a, cap, by rw [hl], by omega, ?_, ?_⟩
  · rcases h with ⟨_, _, rfl, _⟩ | ⟨x, rfl, h1, h2, h3, _⟩
    · exact Nat.zero_le _
    · exact h2
  · by_cases h1 : 0 < len
    · obtain ⟨b, off, e, hb, h2, h3, h4, hc, _⟩ := h.open h1
      refine .inr ⟨b, off, e, hb, fun i hi => ?_⟩
      rw [hl] at hi
      rw [hc i (by omega)]
      simp [List.getD_eq_getElem?_getD, hi]
    · exact .inl (by rw [show len = 0 by omega]; rfl)
theorem getD_map_int (L : List Int) (i : Nat) (h : i < L.length) : (L.map (Value.int .i64))[i]? = some (.int .i64 (L.getD i 0)) := by
  simp [h, List.getD_eq_getElem?_getD]
theorem OwnI.sl {lo hi : Nat} {w : World} {v : Value} {L : List Int} (h : OwnI lo hi w v L) : SlI w v L := by
  rcases h.row.2 with ⟨rfl, h0⟩ | ⟨g, cap, cur, rfl, h1, h2, h3, h4, h5, h6⟩
  · have : L = [] := List.length_eq_zero_iff.1 h0
    subst this
    exact ⟨none, 0, rfl, Nat.le_refl _, Nat.zero_le _, .inl rfl⟩
  · refine ⟨_, cap, rfl, h3, h4, .inr ⟨g, 0, rfl, ?_, fun i hi => ?_⟩⟩
    · have := (h.row.lt g rfl).2; exact this
    · have := h.row.cellAt i (by omega)
      rw [Nat.zero_add, this, getD_map_int L i hi]
theorem OwnI.below {lo hi : Nat} {w w' : World} {v : Value} {L : List Int} (h : OwnI lo hi w v L) (hb : Below w.heap.size w w') : OwnI lo hi w' v L := by
  refine ⟨⟨h.row.1, ?_⟩, h.top, Nat.le_trans h.fits hb.size⟩
  rcases h.row.2 with h0 | ⟨g, cap, cur, rfl, h1, h2, h3⟩
  · exact .inl h0
  · have hg := (h.row.lt g rfl).2
    exact .inr ⟨g, cap, cur, rfl, h1, by rw [hb.block g hg]; exact h2, h3⟩
theorem OwnI.mono {lo hi lo' hi' : Nat} {w : World} {v : Value} {L : List Int} (h : OwnI lo hi w v L) (h1 : lo' ≤ lo) (h2 : hi ≤ hi') (h3 : hi' ≤ w.heap.size) : OwnI lo' hi' w v L := by
  refine ⟨⟨h.row.1, ?_⟩, fun k hk => Nat.lt_of_lt_of_le (h.top k hk) h2, h3⟩
  rcases h.row.2 with h0 | ⟨g, cap, cur, rfl, h4, h5⟩
  · exact .inl h0
  · exact .inr ⟨g, cap, cur, rfl, Nat.le_trans h1 h4, h5⟩
theorem OwnI.drewN {lo hi : Nat} {w : World} {v : Value} {L : List Int} (h : OwnI lo hi w v L) (n : Nat) : OwnI lo hi (w.drewN n) v L := ⟨h.row, h.top, h.fits⟩
theorem SlI.drewN {w : World} {v : Value} {L : List Int} (h : SlI w v L) (n : Nat) : SlI (w.drewN n) v L := h
/-- Writing in another row of the call's own leaves this one. -/
theorem OwnI.beside {lo hi lo2 hi2 : Nat} {w w' : World} {v v2 : Value} {L L2 : List Int} (h : OwnI lo hi w v L) (h2 : OwnI lo2 hi2 w v2 L2) (hg : w.grownBy w' v2.ownBlock) (hd : hi ≤ lo2 ∨ hi2 ≤ lo) : OwnI lo hi w' v L := by
  refine ⟨h.row.kept hg ?_, h.top, Nat.le_trans h.fits hg.size⟩
  cases hv : v.ownBlock with
  | none => exact .inl rfl
  | some k =>
    refine .inr ?_
    rw [← hv]
    intro he
    have a1 := (h.row.lt k hv).1
    have a2 := h.top k hv
    rw [hv] at he
    have b1 := (h2.row.lt k he.symm).1
    have b2 := h2.top k he.symm
    omega

def GaveI (L : List Int) (w : World) (e : Ending) (w' : World) : Prop := ∃ v, e = .returned v ∧ OwnI w.heap.size w'.heap.size w' v L ∧ Below w.heap.size w w'

/-- The cell of an element that is there. -/
theorem SlI.at {w : World} {v : Value} {L : List Int} (h : SlI w v L) (hl : 0 < L.length) : ∃ b off cap, v = .slice (some ⟨b, off, none⟩) L.length cap ∧ L.length ≤ cap ∧ cap ≤ maxLen ∧ b < w.heap.size ∧ ∀ i, i < L.length → w.cell? ⟨b, off + i, none⟩ = some (.int .i64 (L.getD i 0)) := by
  obtain ⟨a, cap, rfl, h1, h2, h3⟩ := h
  rcases h3 with rfl | ⟨b, off, rfl, h4, h5⟩
  · simp at hl
  · exact ⟨b, off, cap, rfl, h1, h2, h4, h5⟩

theorem SlI.cells {w : World} {a : Option Addr} {n cap : Nat} {L : List Int} (h : SlI w (.slice a n cap) L) (hl : 0 < n) : ∃ b off, a = some ⟨b, off, none⟩ ∧ b < w.heap.size ∧ ∀ i, i < n → w.cell? ⟨b, off + i, none⟩ = some (.int .i64 (L.getD i 0)) := by
  obtain ⟨a', cap', e, h1, h2, h3⟩ := h
  injection e with e1 e2 e3
  subst e1 e2 e3
  rcases h3 with rfl | ⟨b, off, rfl, h4, h5⟩
  · simp at hl
  · exact ⟨b, off, rfl, h4, h5⟩

def Same (w : World) (b : Bool) (e : Ending) (w' : World) : Prop := ∃ n, e = .returned (.bool b) ∧ w' = w.drewN n
theorem getD_ext (L M : List Int) (hl : L.length = M.length) (h : ∀ j, j < L.length → L.getD j 0 = M.getD j 0) : L = M := by
  apply List.ext_getElem?
  intro j
  by_cases hj : j < L.length
  · have h0 := h j hj
    rw [List.getD_eq_getElem?_getD, List.getD_eq_getElem?_getD, List.getElem?_eq_getElem hj, List.getElem?_eq_getElem (by omega)] at h0
    rw [List.getElem?_eq_getElem hj, List.getElem?_eq_getElem (by omega)]
    simpa using h0
  · rw [List.getElem?_eq_none (by omega), List.getElem?_eq_none (by omega)]

theorem eqIntS_any (u v : Value) (L M : List Int) (w : World) (hu : SlI w u L) (hv : SlI w v M) :
    Calls Tryd.prog 12 #[u, v] w (Same w (decide (L = M))) := by
  by_cases hl : L.length = M.length
  · · have HU := Lib.hid hu
      have HV := Lib.hid hv
      obtain ⟨a, cap, rfl, h1, h2, _⟩ := hu
      obtain ⟨a', cap', rfl, h1', h2', _⟩ := hv
      unfold maxLen at h2 h2'
      have HE := Lib.hid (getD_ext L M hl)
      have HD : Hid (∀ j, L.getD j 0 ≠ M.getD j 0 → ¬ L = M) := fun j h e => h (by rw [e])
      rw [← hl] at h1' HV ⊢
      clear hl
      generalize hn : L.length = n at *
      have HN := Lib.hid hn
      clear hn
      go_enter Tryd.func12, Tryd.ntmps12
      go_wp2_with fail
      go_loopw [5] (fun i wr => ∃ k : Nat, k ≤ n ∧ i = .int .i64 k ∧ Hid (∀ j, j < k → L.getD j 0 = M.getD j 0) ∧ ∃ q, wr = w.drewN q) (fun i _ => n - (intOf i).toNat)
      case atStart => exact ⟨0, by omega, rfl, fun j hj => by omega, 0, rfl⟩
      case round =>
        obtain ⟨k, hk, rfl, HP, q, rfl⟩ := hrel
        by_cases hlt : k < n
        · obtain ⟨b, off, rfl, _, h4⟩ := HU.out.cells (by omega)
          obtain ⟨b', off', rfl, _, h4'⟩ := HV.out.cells (by omega)
          have c1 := h4 k hlt
          have c2 := h4' k hlt
          by_cases hz : L.getD k 0 = M.getD k 0
          · have HP' : Hid (∀ j, j < k + 1 → L.getD j 0 = M.getD j 0) := fun j hj => by
              by_cases hjk : j = k
              · subst hjk; exact hz
              · exact HP.out j (by omega)
            rw [← hz] at c2
            clear hz h4 h4'
            generalize L.getD k 0 = z at *
            have hzz : (z != z) = false := by simp
            go_wp2_with fail
            go_quiet (fail)
            go_wp2_with fail
            go_roundw
            case rel => exact ⟨k + 1, by omega, by go_num, HP', _, rfl⟩
            case measure => simp [intOf]; omega
          · have HF : Hid (¬ L = M) := HD.out k hz
            have hzz : (L.getD k 0 != M.getD k 0) = true := by simpa using hz
            clear h4 h4' HP HE HD hz
            generalize L.getD k 0 = z at *
            generalize M.getD k 0 = z' at *
            go_wp2_with fail
            go_quiet (fail)
            go_wp2_with fail
            go_ret
            refine ⟨_, ?_, World.drewN_drewN ..⟩
            rw [decide_eq_false HF.out]; rfl
        · obtain rfl : k = n := by omega
          have HT : Hid (L = M) := HE.out HP.out
          go_wp2_with fail
          go_ret
          refine ⟨_, ?_, rfl⟩
          rw [decide_eq_true HT.out]; rfl
  · obtain ⟨a, cap, rfl, _, h2, _⟩ := hu
    obtain ⟨a', cap', rfl, _, h2', _⟩ := hv
    have hd : decide (L = M) = false := by simp; intro e; exact hl (by rw [e])
    rw [hd]
    have hne : ((L.length : Int) != (M.length : Int)) = true := by simpa using fun h => hl (by omega)
    go_enter Tryd.func12, Tryd.ntmps12
    go_wp2_with fail
    go_ret
    exact ⟨0, rfl, rfl⟩
end Go.Proofs.YtckmkjkckadfjaaDoor

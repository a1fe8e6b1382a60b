/- Comparing two slices of ints; what a reader's step and an append leave of each other. -/
import Derived.Test.YtckmkjkckadfjaaDoorAppend
namespace Go.Proofs.YtckmkjkckadfjaaDoor
open Go.RowKit
set_option maxHeartbeats 400000

theorem equalInts_any (u v : Value) (L M : List Int) (w : World) (hu : SlI w u L) (hv : SlI w v M) :
    Calls Tryd.prog 10 #[u, v] w (Same w (decide (L = M))) := by
  by_cases hl : L.length = M.length
  · · have HU := Lib.hid hu
      have HV := Lib.hid hv
      obtain ⟨a, cap, rfl, h1, h2, _⟩ := hu
      obtain ⟨a', cap', rfl, h1', h2', _⟩ := hv
      unfold maxLen at h2 h2'
      have HE := Lib.hid (getD_ext L M hl)
      have HD : Hid (∀ j, L.getD j 0 ≠ M.getD j 0 → ¬ L = M) := fun j h e => h (by rw [e])
      rw [← hl] at h1' HV ⊢
      clear hl
      generalize hn : L.length = n at *
      have HN := Lib.hid hn
      clear hn
      go_enter Tryd.func10, Tryd.ntmps10
      go_wp2_with fail
      go_loopw [5] (fun i wr => ∃ k : Nat, k ≤ n ∧ i = .int .i64 k ∧ Hid (∀ j, j < k → L.getD j 0 = M.getD j 0) ∧ ∃ q, wr = w.drewN q) (fun i _ => n - (intOf i).toNat)
      case atStart => exact ⟨0, by omega, rfl, fun j hj => by omega, 0, rfl⟩
      case round =>
        obtain ⟨k, hk, rfl, HP, q, rfl⟩ := hrel
        by_cases hlt : k < n
        · obtain ⟨b, off, rfl, _, h4⟩ := HU.out.cells (by omega)
          obtain ⟨b', off', rfl, _, h4'⟩ := HV.out.cells (by omega)
          have c1 := h4 k hlt
          have c2 := h4' k hlt
          by_cases hz : L.getD k 0 = M.getD k 0
          · have HP' : Hid (∀ j, j < k + 1 → L.getD j 0 = M.getD j 0) := fun j hj => by
              by_cases hjk : j = k
              · subst hjk; exact hz
              · exact HP.out j (by omega)
            rw [← hz] at c2
            clear hz h4 h4'
            generalize L.getD k 0 = z at *
            have hzz : (z != z) = false := by simp
            go_wp2_with fail
            go_quiet (fail)
            go_wp2_with fail
            go_roundw
            case rel => exact ⟨k + 1, by omega, by go_num, HP', _, rfl⟩
            case measure => simp [intOf]; omega
          · have HF : Hid (¬ L = M) := HD.out k hz
            have hzz : (L.getD k 0 != M.getD k 0) = true := by simpa using hz
            clear h4 h4' HP HE HD hz
            generalize L.getD k 0 = z at *
            generalize M.getD k 0 = z' at *
            go_wp2_with fail
            go_quiet (fail)
            go_wp2_with fail
            go_ret
            refine ⟨_, ?_, World.drewN_drewN ..⟩
            rw [decide_eq_false HF.out]; rfl
        · obtain rfl : k = n := by omega
          have HT : Hid (L = M) := HE.out HP.out
          go_wp2_with fail
          go_ret
          refine ⟨_, ?_, rfl⟩
          rw [decide_eq_true HT.out]; rfl
  · obtain ⟨a, cap, rfl, _, h2, _⟩ := hu
    obtain ⟨a', cap', rfl, _, h2', _⟩ := hv
    have hd : decide (L = M) = false := by simp; intro e; exact hl (by rw [e])
    rw [hd]
    have hne : ((L.length : Int) != (M.length : Int)) = true := by simpa using fun h => hl (by omega)
    go_enter Tryd.func10, Tryd.ntmps10
    go_wp2_with fail
    go_ret
    exact ⟨0, rfl, rfl⟩

/-- A row of the call's own behind a step of the reader. -/
theorem owns_keeps {rb B e size n : Nat} {w w' : World} {v : Value} {xs : List Value} (h : w.ownsRow B e size v n xs) (hk : Keeps rb w w') (hB : rb < B) : w'.ownsRow B e size v n xs := by
  refine ⟨h.1, ?_⟩
  rcases h.2 with h0 | ⟨g, cap, cur, rfl, h1, h2, h3⟩
  · exact .inl h0
  · have hg := (h.lt g rfl).2
    exact .inr ⟨g, cap, cur, rfl, h1, by rw [hk.others g hg (by omega)]; exact h2, h3⟩
/-- The reader behind a change of a row that lies above it. -/
theorem Rdr.grown {w w' : World} {rb P : Nat} {row : Option Nat} (h : Rdr w rb P) (hg : w.grownBy w' row) (hr : ∀ k, row = some k → rb < k) : Rdr w' rb P ∧ Below rb w w' := by
  have hne : ∀ b, b ≤ rb → some b ≠ row := fun b hb e => by have := hr b e.symm; omega
  have hc : ∀ b o, b ≤ rb → w'.cell? ⟨b, o, none⟩ = w.cell? ⟨b, o, none⟩ := fun b o hb => World.cell?_of_block (w := w) (hg.block b (Nat.lt_of_le_of_lt hb h.lies) (hne b hb))
  have hf : w'.frozen? ⟨rb, 1, none⟩ = w.frozen? ⟨rb, 1, none⟩ := World.frozen?_of_block (w := w) (hg.block rb h.lies (hne rb (Nat.le_refl _)))
  refine ⟨⟨Nat.lt_of_lt_of_le h.lies hg.size, by rw [hf]; exact h.free, ?_⟩, ?_⟩
  · obtain ⟨sv, len, cap, k, hk, hl, c0, c1, r⟩ := h.held
    refine ⟨sv, len, cap, k, hk, hl, by rw [hc _ _ (Nat.le_refl _)]; exact c0, by rw [hc _ _ (Nat.le_refl _)]; exact c1, ?_⟩
    rcases r with r | ⟨b, off, z, e, hbr, hz⟩
    · exact .inl r
    · exact .inr ⟨b, off, z, e, hbr, fun i hi => by rw [hc _ _ (Nat.le_of_lt hbr)]; exact hz i hi⟩
  · exact (Below.refl _ _).grown hg (Nat.le_of_lt h.lies) (fun k hk => Nat.le_of_lt (hr k hk))
end Go.Proofs.YtckmkjkckadfjaaDoor

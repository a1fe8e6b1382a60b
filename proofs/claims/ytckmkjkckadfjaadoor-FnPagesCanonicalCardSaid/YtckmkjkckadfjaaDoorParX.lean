/- The program's ParsePages gives what the reference's gives. -/
import Derived.Test.YtckmkjkckadfjaaDoorParPgI
namespace Go.Proofs.YtckmkjkckadfjaaDoor
open Go.RowKit
set_option maxHeartbeats 4000000
set_option maxRecDepth 100000
set_option linter.unusedVariables false

/-- What the library's variables hold. -/
structure DoorV (w : World) : Prop where
  err : ErrV w
  max : MaxL w
  tab : Pow10 w
theorem DoorV.below {w w' : World} (h : DoorV w) (hb : Below w.heap.size w w') : DoorV w' := ⟨h.err.below hb, h.max.below hb, h.tab.below hb⟩
/-- The answer of a ParsePages, the same for both cases. -/
def GaveA (L : List Int) (b : Bool) (w : World) (e : Ending) (w' : World) : Prop := ∃ v, e = .returned (.tuple #[v, .bool b]) ∧ OwnI w.heap.size w'.heap.size w' v L ∧ Below w.heap.size w w'
theorem GaveP.all {A : Option (List Int)} {w w' : World} {e : Ending} (h : GaveP A w e w') : GaveA (A.getD []) A.isSome w e w' := by
  obtain ⟨hb, ⟨L, v, rfl, _, rfl, ho⟩ | ⟨rfl, rfl⟩⟩ := h
  · exact ⟨v, rfl, ho, hb⟩
  · exact ⟨_, rfl, ⟨World.ownsRow_nil _ _ _ _, fun k hk => by simp [Value.ownBlock] at hk, Nat.le_refl _⟩, hb⟩
theorem impI_len (s : Bs) : ((impI s).getD []).length ≤ 40 := by
  cases h : impI s with
  | none => simp
  | some L => exact (okPg_at (impI_some h).1).1

theorem exactParse_walk (s : ByteArray) (w : World) (hD : DoorV w) (hm : s.size ≤ maxLen) :
    Calls Tryd.prog 4 #[.string s] w fun e w' => e = .returned (.bool true) ∧ Below w.heap.size w w' := by
  unfold maxLen at hm
  by_cases hl : 1048576 < s.size
  · have hd : decide ((1048576 : Int) < (s.size : Int)) = true := decide_eq_true (by omega)
    go_enter Tryd.func4, Tryd.ntmps4
    go_wp2
    go_ret
    exact ⟨rfl, Below.refl _ _⟩
  · have HS := Lib.hid (fun w' => (sparse_any s w' (by omega)).mono (fun e w2 h => h.all))
    have HI := Lib.hid (fun w' (b : Below w.heap.size w w') => (parse_any s w' (by omega) (hD.below b).err (hD.below b).max (hD.below b).tab).mono (fun e w2 h => h.all))
    have hR := impI_len s.data.toList
    generalize (impI s.data.toList).getD [] = R at *
    generalize (impI s.data.toList).isSome = b at *
    have hk2 : decide ((1 : Int) + R.length < 0) = false := by simp; omega
    have hd : decide ((1048576 : Int) < (s.size : Int)) = false := decide_eq_false (by omega)
    have hbb : (b != b) = false := by cases b <;> rfl
    clear hD
    go_enter Tryd.func4, Tryd.ntmps4
    go_wp2_with fail
    refine (HS.out _).mono ?_
    rintro e w1 ⟨vw, rfl, ow, b1⟩
    have B1 := b1
    go_wp2_with fail
    refine (HI.out _ B1).mono ?_
    rintro e w4 ⟨g0, rfl, og, b4⟩
    have B4 := B1.trans (b4.mono B1.size)
    have ow := ow.below b4
    go_wp2_with fail
    refine (eqIntS_any g0 vw R R _ og.sl ow.sl).mono ?_
    rintro e w5 ⟨n5, rfl, rfl⟩
    have B5 := bel_drewN B4 n5
    have ow := ow.drewN n5
    have og := og.drewN n5
    go_wp2_with fail
    refine (markIntS_any _ _ g0 R 1 _ (by omega) (by omega) og).mono ?_
    rintro e w10 ⟨rfl, og10, g10⟩
    have B10 := B5.grown g10 B5.size (fun k hk => by have := (og.row.lt k hk).1; have := B1.size; omega)
    have ow := ow.beside og g10 (.inl (Nat.le_refl _))
    clear og
    go_wp2_with fail
    refine (heldIntS_any g0 1 R.length _ (by omega) (by omega) og10.sl).mono ?_
    rintro e w11 ⟨rfl, rfl⟩
    go_wp2_with fail
    refine (HI.out _ B10).mono ?_
    rintro e w13 ⟨h0, rfl, oh, b13⟩
    have B13 := B10.trans (b13.mono B10.size)
    have ow := ow.below b13
    have og := og10.below b13
    clear og10
    go_wp2_with fail
    refine (eqIntS_any h0 vw R R _ oh.sl ow.sl).mono ?_
    rintro e w14 ⟨n14, rfl, rfl⟩
    have B14 := bel_drewN B13 n14
    have og := og.drewN n14
    go_wp2_with fail
    refine (heldIntS_any g0 1 R.length _ (by omega) (by omega) og.sl).mono ?_
    rintro e w15 ⟨rfl, rfl⟩
    go_wp2_with fail
    go_ret
    exact ⟨rfl, B14⟩
end Go.Proofs.YtckmkjkckadfjaaDoor

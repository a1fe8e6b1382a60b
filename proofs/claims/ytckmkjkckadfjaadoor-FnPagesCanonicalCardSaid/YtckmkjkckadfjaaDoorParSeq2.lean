/- strings.SplitSeq. -/
import Derived.Test.YtckmkjkckadfjaaDoorParSeq
namespace Go.Proofs.YtckmkjkckadfjaaDoor
open Go.RowKit Go.Shelf
set_option maxHeartbeats 2000000
set_option maxRecDepth 100000
set_option linter.unusedVariables false

def seqV (n : Nat) : Value := .func (.func 46) #[] #[.pointer (some ⟨n + 1, 0, none⟩), .pointer (some ⟨n, 0, none⟩), .pointer (some ⟨n + 1 + 1, 0, none⟩)]
def seqW (s : ByteArray) (w : World) : World := ((w.alloc (.cells #[.string s] 9)).alloc (.cells #[.string sepA] 9)).alloc (.cells #[.int .i64 0] 3)
theorem splitSeq0_any (s : ByteArray) (w : World) : Calls Tryd.prog 37 #[.string s, .string sepA, .int .i64 0] w fun e w' => e = .returned (seqV w.heap.size) ∧ w' = seqW s w := by
  unfold seqV seqW
  go_enter Tryd.func37, Tryd.ntmps37
  go_wp2_with fail
  go_ret
  exact ⟨rfl, rfl⟩
theorem splitSeq_any (s : ByteArray) (w : World) : Calls Tryd.prog 23 #[.string s, .string sepA] w fun e w' => e = .returned (seqV w.heap.size) ∧ w' = seqW s w := by
  have HC := Lib.hid (splitSeq0_any s w)
  generalize seqV w.heap.size = v at *
  generalize seqW s w = W at *
  go_enter Tryd.func23, Tryd.ntmps23
  go_wp2_with fail
  refine HC.out.mono ?_
  rintro e w' ⟨rfl, rfl⟩
  go_wp2_with fail
  go_ret
  exact ⟨rfl, rfl⟩
theorem splitSeq_seq (s : ByteArray) (w : World) (ob : Nat) (hob : ob < w.heap.size) (hM : MaxL w) (hm : 0 ≠ ob) (hs : s.size < 4294967281) :
    SeqB Tryd.prog 46 #[.pointer (some ⟨w.heap.size + 1, 0, none⟩), .pointer (some ⟨w.heap.size, 0, none⟩), .pointer (some ⟨w.heap.size + 1 + 1, 0, none⟩)] w.heap.size ob (Lib.splitB sepA 0 s.size s) (seqW s w) := by
  have hb : Below w.heap.size w (seqW s w) := (((Below.refl _ w).alloc (Nat.le_refl _) _).alloc (by simp) _).alloc (by simp; omega) _
  have hz : (seqW s w).heap.size = w.heap.size + 3 := by simp [seqW]
  have hml : 0 < w.heap.size := by obtain ⟨m, _, h⟩ := hM; exact h
  have hB : Boxes (seqW s w) (seqW s w).heap.size ob (w.heap.size + 1) w.heap.size (w.heap.size + 1 + 1) s := by
    have b1 : Below (w.heap.size + 1) (w.alloc (.cells #[.string s] 9)) (seqW s w) := ((Below.refl _ _).alloc (by simp) _).alloc (by simp) _
    have b2 : Below (w.heap.size + 1 + 1) ((w.alloc (.cells #[.string s] 9)).alloc (.cells #[.string sepA] 9)) (seqW s w) := (Below.refl _ _).alloc (by simp) _
    refine ⟨?_, ?_, ?_, ?_, by rw [hz]; omega, by omega, by omega⟩
    · rw [b2.cell (p := ⟨w.heap.size + 1, 0, none⟩) (by simp)]
      have := (Boxed.new (w.alloc (.cells #[.string s] 9)) 9 (.string sepA)).cell
      rwa [World.size_alloc] at this
    · rw [b1.cell (p := ⟨w.heap.size, 0, none⟩) (by simp)]
      exact (Boxed.new w 9 (.string s)).cell
    · rw [b1.frozen (p := ⟨w.heap.size, 0, none⟩) (by simp)]
      exact (Boxed.new w 9 (.string s)).frozen
    · have := (Boxed.new ((w.alloc (.cells #[.string s] 9)).alloc (.cells #[.string sepA] 9)) 3 (.int .i64 0)).cell
      rwa [World.size_alloc, World.size_alloc] at this
  intro l J Jx W hW hJ hJs hJx hJxs hY h0
  exact splitSeq1_any (seqW s w).heap.size ob _ _ _ l _ J Jx s W (hB.below hW) ⟨rfl, Nat.le_refl _⟩ ((hM.below hb).below (hW.mono (Nat.le_refl _))) ⟨by rw [hz]; omega, hm, by omega⟩ hs hJs hY h0
end Go.Proofs.YtckmkjkckadfjaaDoor

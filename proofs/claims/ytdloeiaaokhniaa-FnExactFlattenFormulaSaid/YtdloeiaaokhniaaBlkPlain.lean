/- Blocks with labels as plain lists: which are valid. -/
import Derived.Test.YtdloeiaaokhniaaStructs
namespace Go.Proofs.Ytdloeiaaokhniaa
open Go.RowKit

abbrev Blk := Int × Int × Int
def bl (B : List Blk) (k : Nat) : Int := (B.getD k (0, 0, 0)).1
def bb (B : List Blk) (k : Nat) : Int := (B.getD k (0, 0, 0)).2.1
def br (B : List Blk) (k : Nat) : Int := (B.getD k (0, 0, 0)).2.2
/-- Does a label that is not 0 occur among the first k blocks? -/
def seenF (B : List Blk) (k : Nat) (l : Nat) : Bool := decide (0 < l) && (List.range k).any (fun j => decide (bb B j = (l : Int)))
theorem seenF_zero (B : List Blk) (l : Nat) : seenF B 0 l = false := by unfold seenF; simp
theorem seenF_succ (B : List Blk) (k l : Nat) : seenF B (k + 1) l = if bb B k = (l : Int) then decide (0 < l) else seenF B k l := by
  unfold seenF
  rw [List.range_succ, List.any_append]
  split
  · rename_i h; simp [h]
  · rename_i h; simp [h]
theorem seenF_no {B : List Blk} {k l : Nat} : seenF B k l = false ↔ ∀ j, j < k → ¬ (0 < l ∧ bb B j = (l : Int)) := by
  unfold seenF
  constructor
  · intro h j hj hx
    have : ((List.range k).any fun j => decide (bb B j = (l : Int))) = true := List.any_eq_true.2 ⟨j, List.mem_range.2 hj, by simpa using hx.2⟩
    rw [this] at h
    simp at h
    omega
  · intro h
    cases h1 : decide (0 < l) with
    | false => rfl
    | true =>
      rw [decide_eq_true_eq] at h1
      cases h2 : (List.range k).any fun j => decide (bb B j = (l : Int)) with
      | false => rfl
      | true =>
        obtain ⟨j, hj, hx⟩ := List.any_eq_true.1 h2
        exact absurd ⟨h1, by simpa using hx⟩ (h j (List.mem_range.1 hj))
def okB1 (B : List Blk) (k : Nat) : Bool := decide (1 ≤ bl B k ∧ bl B k ≤ 40) && decide (0 ≤ bb B k ∧ bb B k ≤ 9) && decide (0 ≤ br B k ∧ br B k ≤ 9) && !(seenF B k (bb B k).toNat)
def okB (B : List Blk) : Bool := decide (B.length ≤ 20) && (List.range B.length).all (okB1 B)
theorem okB_at {B : List Blk} (h : okB B = true) : B.length ≤ 20 ∧ ∀ k, k < B.length → okB1 B k = true := by
  unfold okB at h
  rw [Bool.and_eq_true, decide_eq_true_eq, List.all_eq_true] at h
  exact ⟨h.1, fun k hk => h.2 k (List.mem_range.2 hk)⟩
theorem okB_of {B : List Blk} (h1 : B.length ≤ 20) (h : ∀ k, k < B.length → okB1 B k = true) : okB B = true := by
  unfold okB
  rw [Bool.and_eq_true, decide_eq_true_eq, List.all_eq_true]
  exact ⟨h1, fun k hk => h k (List.mem_range.1 hk)⟩
theorem okB_bad {B : List Blk} (k : Nat) (hk : k < B.length) (h : okB1 B k = false) : okB B = false := by
  cases h1 : okB B with
  | false => rfl
  | true => have := (okB_at h1).2 k hk; rw [h] at this; cases this
theorem okB_long {B : List Blk} (h : 20 < B.length) : okB B = false := by
  cases h1 : okB B with
  | false => rfl
  | true => have := (okB_at h1).1; omega
theorem okB1_at {B : List Blk} {k : Nat} (h : okB1 B k = true) : (1 ≤ bl B k ∧ bl B k ≤ 40) ∧ (0 ≤ bb B k ∧ bb B k ≤ 9) ∧ (0 ≤ br B k ∧ br B k ≤ 9) ∧ seenF B k (bb B k).toNat = false := by
  unfold okB1 at h
  rw [Bool.and_eq_true, Bool.and_eq_true, Bool.and_eq_true, decide_eq_true_eq, decide_eq_true_eq, decide_eq_true_eq] at h
  exact ⟨h.1.1.1, h.1.1.2, h.1.2, by simpa using h.2⟩

def blkC : List Blk → List Value
  | [] => []
  | p :: r => .int .i64 p.1 :: .int .i64 p.2.1 :: .int .i64 p.2.2 :: blkC r
theorem blkC_len : ∀ B, (blkC B).length = B.length * 3
  | [] => rfl
  | p :: r => by simp [blkC, blkC_len r]; omega
theorem blkC_at : ∀ (B : List Blk) (i : Nat), i < B.length → (blkC B)[i * 3]? = some (.int .i64 (bl B i)) ∧ (blkC B)[i * 3 + 1]? = some (.int .i64 (bb B i)) ∧ (blkC B)[i * 3 + 2]? = some (.int .i64 (br B i))
  | [], i, h => by simp at h
  | p :: r, 0, _ => ⟨rfl, rfl, rfl⟩
  | p :: r, i + 1, h => by
    have := blkC_at r i (by simpa using h)
    rw [show (i + 1) * 3 = i * 3 + 1 + 1 + 1 by omega]
    simp only [blkC, List.getElem?_cons_succ]
    exact this
def SlB (w : World) (v : Value) (B : List Blk) : Prop := SlC 3 w v B.length (blkC B)
theorem SlB.below {w w' : World} {v : Value} {B : List Blk} (h : SlB w v B) (hb : Below w.heap.size w w') : SlB w' v B := SlC.below h hb
theorem SlB.cells {w : World} {a : Option Addr} {n cap : Nat} {B : List Blk} (h : SlB w (.slice a n cap) B) (hl : 0 < n) : n = B.length ∧ ∃ b off, a = some ⟨b, off, none⟩ ∧ b < w.heap.size ∧ ∀ i, i < n → w.cell? ⟨b, off + i * 3, none⟩ = some (.int .i64 (bl B i)) ∧ w.cell? ⟨b, off + i * 3 + 1, none⟩ = some (.int .i64 (bb B i)) ∧ w.cell? ⟨b, off + i * 3 + 2, none⟩ = some (.int .i64 (br B i)) := by
  have hn : n = B.length := by obtain ⟨_, _, e, _⟩ := h; injection e
  subst hn
  obtain ⟨b, off, e, hb, hc⟩ := SlC.cells h hl
  refine ⟨rfl, b, off, e, hb, fun i hi => ?_⟩
  have := blkC_at B i hi
  refine ⟨(hc _ (by omega)).trans this.1, ?_, ?_⟩
  · rw [Nat.add_assoc]
    exact (hc _ (by omega)).trans this.2.1
  · rw [Nat.add_assoc]
    exact (hc _ (by omega)).trans this.2.2
end Go.Proofs.Ytdloeiaaokhniaa

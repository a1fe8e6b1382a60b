/- The text of pages, as a plain function. -/
import Derived.Test.YtckmkjkckadfjaaDoorInts
import Derived.Lib.ItoaLen
import Derived.Lib.ItoaMem
namespace Go.Proofs.YtckmkjkckadfjaaDoor
set_option linter.unusedVariables false

abbrev Bs : Type := List UInt8
def dg (n : Int) : Bs := Lib.decDigits n.toNat
def sepB : Bs := [44, 32]
def pe (L : List Int) (i : Nat) : Int := L.getD i 0
/-- Is the number behind place i the next one? -/
def nx (L : List Int) (i : Nat) : Prop := i + 1 < L.length ∧ pe L (i + 1) = pe L i + 1
instance (L : List Int) (i : Nat) : Decidable (nx L i) := inferInstanceAs (Decidable (_ ∧ _))
def reF (L : List Int) : Nat → Nat → Nat
  | 0, i => i
  | f + 1, i => if nx L i then reF L f (i + 1) else i
/-- The last place of the run that goes on from place i. -/
def re (L : List Int) (i : Nat) : Nat := reF L (L.length - i) i
theorem re_step {L : List Int} {i : Nat} (h : nx L i) : re L i = re L (i + 1) := by
  have h1 := h.1
  unfold re
  rw [show L.length - i = (L.length - (i + 1)) + 1 by omega, reF, if_pos h]
theorem re_stop {L : List Int} {i : Nat} (h : ¬ nx L i) : re L i = i := by
  unfold re
  cases L.length - i with
  | zero => rfl
  | succ f => rw [reF, if_neg h]
theorem re_ge {L : List Int} : ∀ (d i : Nat), L.length - i = d → i ≤ re L i ∧ (i < L.length → re L i < L.length)
  | 0, i, h => by
    have : ¬ nx L i := fun h2 => by have h3 : i + 1 < L.length := h2.1; omega
    rw [re_stop this]; exact ⟨Nat.le_refl _, fun h => h⟩
  | d + 1, i, h => by
    by_cases hn : nx L i
    · have h1 := hn.1
      obtain ⟨a, b⟩ := re_ge (L := L) d (i + 1) (by omega)
      rw [re_step hn]
      exact ⟨by omega, fun _ => b h1⟩
    · rw [re_stop hn]; exact ⟨Nat.le_refl _, fun h => h⟩
theorem le_re (L : List Int) (i : Nat) : i ≤ re L i := (re_ge _ i rfl).1
theorem re_lt {L : List Int} {i : Nat} (h : i < L.length) : re L i < L.length := (re_ge _ i rfl).2 h
/-- The parts of the text from place i on. -/
def ptF (L : List Int) : Nat → Nat → List Bs
  | 0, _ => []
  | f + 1, i => if i < L.length then (if i + 2 ≤ re L i then (dg (pe L i) ++ [45] ++ dg (pe L (re L i))) :: ptF L f (re L i + 1) else dg (pe L i) :: ptF L f (i + 1)) else []
theorem ptF_more (L : List Int) : ∀ (f i : Nat), L.length ≤ f + i → ptF L f i = ptF L (f + 1) i
  | 0, i, h => by rw [ptF, ptF, if_neg (by omega)]
  | f + 1, i, h => by
    have h1 := le_re L i
    rw [ptF, ptF]
    rw [ptF_more L f (re L i + 1) (by omega), ptF_more L f (i + 1) (by omega)]
theorem ptF_any (L : List Int) (i : Nat) : ∀ d f, f = L.length - i + d → ptF L f i = ptF L (L.length - i) i
  | 0, f, h => by rw [h]; rfl
  | d + 1, f, h => by
    rw [h, show L.length - i + (d + 1) = (L.length - i + d) + 1 by omega, ← ptF_more L _ i (by omega), ptF_any L i d _ rfl]
def pts (L : List Int) (i : Nat) : List Bs := ptF L (L.length - i) i
theorem pts_end {L : List Int} {i : Nat} (h : L.length ≤ i) : pts L i = [] := by
  unfold pts
  rw [show L.length - i = 0 by omega]; rfl
theorem pts_run {L : List Int} {i : Nat} (h : i < L.length) (hr : i + 2 ≤ re L i) : pts L i = (dg (pe L i) ++ [45] ++ dg (pe L (re L i))) :: pts L (re L i + 1) := by
  have h1 := re_lt h
  unfold pts
  rw [show L.length - i = (L.length - (i + 1)) + 1 by omega, ptF, if_pos h, if_pos hr, ptF_any L (re L i + 1) (re L i - i) (L.length - (i + 1)) (by omega)]
theorem pts_one {L : List Int} {i : Nat} (h : i < L.length) (hr : ¬ i + 2 ≤ re L i) : pts L i = dg (pe L i) :: pts L (i + 1) := by
  unfold pts
  rw [show L.length - i = (L.length - (i + 1)) + 1 by omega, ptF, if_pos h, if_neg hr]
def jn : List Bs → Bs
  | [] => []
  | x :: r => x ++ r.flatMap (fun y => sepB ++ y)
def tl (L : List Int) (i : Nat) : Bs := (pts L i).flatMap (fun y => sepB ++ y)
def txt (L : List Int) : Bs := jn (pts L 0)
/-- What one round of the reference's loop writes. -/
def chunk (L : List Int) (i : Nat) : Bs := dg (pe L i) ++ (if re L i = i + 1 then sepB ++ dg (pe L (re L i)) else if i + 1 < re L i then [45] ++ dg (pe L (re L i)) else [])
theorem tl_chunk {L : List Int} {i : Nat} (h : i < L.length) : tl L i = sepB ++ chunk L i ++ tl L (re L i + 1) := by
  have h0 := le_re L i
  unfold tl chunk
  by_cases h1 : re L i = i + 1
  · have hn : nx L i := by
      by_cases hn : nx L i
      · exact hn
      · have := re_stop hn; omega
    have h2 : re L (i + 1) = i + 1 := by rw [← re_step hn, h1]
    have h3 : i + 1 < L.length := hn.1
    rw [if_pos h1, pts_one h (by omega), List.flatMap_cons, pts_one h3 (by omega), List.flatMap_cons, h1]
    simp
  · rw [if_neg h1]
    by_cases h2 : i + 1 < re L i
    · rw [if_pos h2, pts_run h (by omega), List.flatMap_cons]
      simp
    · rw [if_neg h2, pts_one h (by omega), List.flatMap_cons, show re L i = i by omega]
      simp
theorem txt_chunk {L : List Int} (h : 0 < L.length) : txt L = chunk L 0 ++ tl L (re L 0 + 1) := by
  have h0 := tl_chunk h
  have h1 : tl L 0 = sepB ++ txt L := by
    unfold tl txt
    by_cases hr : 0 + 2 ≤ re L 0
    · rw [pts_run h hr]; simp [jn]
    · rw [pts_one h hr]; simp [jn]
  rw [h1, List.append_assoc] at h0
  exact List.append_cancel_left h0
theorem txt_nil {L : List Int} (h : L.length = 0) : txt L = [] := by unfold txt; rw [pts_end (by omega)]; rfl

/-! ### Pages in order -/
def okAt (L : List Int) (i : Nat) : Prop := 1 ≤ pe L i ∧ pe L i ≤ 3999 ∧ (0 < i → pe L (i - 1) < pe L i)
instance (L : List Int) (i : Nat) : Decidable (okAt L i) := inferInstanceAs (Decidable (_ ∧ _ ∧ (_ → _)))
def okPg (L : List Int) : Bool := decide (L.length ≤ 40) && decide (∀ i, i < L.length → okAt L i)
theorem okPg_of {L : List Int} (h1 : L.length ≤ 40) (h2 : ∀ i, i < L.length → okAt L i) : okPg L = true := by
  unfold okPg; rw [decide_eq_true h1, decide_eq_true h2]; rfl
theorem okPg_long {L : List Int} (h : ¬ L.length ≤ 40) : okPg L = false := by unfold okPg; rw [decide_eq_false h]; rfl
theorem okPg_bad {L : List Int} {i : Nat} (hi : i < L.length) (h : ¬ okAt L i) : okPg L = false := by
  unfold okPg
  have : decide (∀ i, i < L.length → okAt L i) = false := decide_eq_false (fun h2 => h (h2 i hi))
  rw [this, Bool.and_false]
theorem okPg_at {L : List Int} (h : okPg L = true) : L.length ≤ 40 ∧ ∀ i, i < L.length → okAt L i := by
  unfold okPg at h; rw [Bool.and_eq_true, decide_eq_true_eq, decide_eq_true_eq] at h; exact h
/-- The text of pages; nothing for others. -/
def fmtP (L : List Int) : ByteArray := if okPg L = true then ⟨(txt L).toArray⟩ else ⟨#[]⟩
theorem dg_len {n : Int} (h : n ≤ 1000000000) : (dg n).length ≤ 21 := by
  unfold dg
  have h1 := Lib.itoa_length_le ((n.toNat : Nat) : Int) (by omega) (by omega)
  rw [Lib.itoa_nonneg] at h1
  omega
theorem bs_app (a b : ByteArray) : (a ++ b).data.toList = a.data.toList ++ b.data.toList := by rw [ByteArray.data_append]; simp
theorem bs_of {a : ByteArray} {l : Bs} (h : a.data.toList = l) : a = ⟨l.toArray⟩ := by subst h; simp
end Go.Proofs.YtckmkjkckadfjaaDoor

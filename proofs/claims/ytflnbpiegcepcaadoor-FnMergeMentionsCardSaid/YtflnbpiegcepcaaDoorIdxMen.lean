/- Mentions in memory; the index that they make, as a plain function. -/
import Derived.Test.YtflnbpiegcepcaaDoorIdxWord
import Derived.Test.YtflnbpiegcepcaaDoorIdxMem
namespace Go.Proofs.YtflnbpiegcepcaaDoor
open Go.RowKit
set_option maxHeartbeats 1000000
set_option maxRecDepth 100000
set_option linter.unusedVariables false

abbrev Men : Type := ByteArray × Int
def mC (M : List Men) : List Value := M.flatMap fun x => [.string x.1, .int .i64 x.2]
def mw (M : List Men) (i : Nat) : ByteArray := (M.getD i (⟨#[]⟩, 0)).1
def mp (M : List Men) (i : Nat) : Int := (M.getD i (⟨#[]⟩, 0)).2
theorem mC_cons (x : Men) (M : List Men) : mC (x :: M) = .string x.1 :: .int .i64 x.2 :: mC M := rfl
theorem mC_append (X Y : List Men) : mC (X ++ Y) = mC X ++ mC Y := by simp [mC]
theorem mC_len : ∀ M : List Men, (mC M).length = M.length * 2
  | [] => rfl
  | x :: M => by rw [mC_cons, List.length_cons, List.length_cons, mC_len M, List.length_cons]; omega
theorem mC_at : ∀ (M : List Men) (i : Nat), i < M.length → (mC M)[i * 2]? = some (.string (mw M i)) ∧ (mC M)[i * 2 + 1]? = some (.int .i64 (mp M i))
  | x :: M, 0, _ => ⟨rfl, rfl⟩
  | x :: M, i + 1, h => by
    have := mC_at M i (by simpa using h)
    rw [mC_cons, show (i + 1) * 2 = i * 2 + 1 + 1 by omega]
    simpa [mw, mp] using this
theorem mC_one (M : List Men) : ∀ u ∈ mC M, u.oneCell' = true := by
  intro u hu
  unfold mC at hu
  rw [List.mem_flatMap] at hu
  obtain ⟨x, hx, hu⟩ := hu
  simp only [List.mem_cons, List.not_mem_nil, or_false] at hu
  rcases hu with rfl | rfl <;> rfl
theorem men_at (M : List Men) (i : Nat) (h : i < M.length) : M[i] = (mw M i, mp M i) := by simp [mw, mp, List.getD_eq_getElem?_getD, h]
/-- Mentions that can be read. -/
def SlM (w : World) (v : Value) (M : List Men) : Prop := SlC 2 w v M.length (mC M)
theorem SlM.below {w w' : World} {v : Value} {M : List Men} (h : SlM w v M) (hb : Below w.heap.size w w') : SlM w' v M := SlC.below h hb
theorem SlM.shape {w : World} {v : Value} {M : List Men} (h : SlM w v M) : ∃ a cap, v = .slice a M.length cap ∧ M.length ≤ cap ∧ cap ≤ maxLen := by
  obtain ⟨a, cap, e, h1, h2, _⟩ := h; exact ⟨a, cap, e, h1, h2⟩
theorem SlM.at {w : World} {a : Option Addr} {n cap : Nat} {M : List Men} (h : SlM w (.slice a n cap) M) (hn : 0 < n) : ∃ b off, a = some ⟨b, off, none⟩ ∧ b < w.heap.size ∧ ∀ i, i < n → w.cell? ⟨b, off + i * 2, none⟩ = some (.string (mw M i)) ∧ w.cell? ⟨b, off + i * 2 + 1, none⟩ = some (.int .i64 (mp M i)) := by
  have h' := h
  obtain ⟨a', cap', e, _⟩ := h'
  injection e with e1 e2 e3
  subst e2
  obtain ⟨b, off, rfl, hb, hc⟩ := SlC.cells h hn
  refine ⟨b, off, rfl, hb, fun i hi => ?_⟩
  obtain ⟨c0, c1⟩ := mC_at M i hi
  refine ⟨by rw [hc _ (by omega), c0], by rw [Nat.add_assoc, hc _ (by omega), c1]⟩

/-! ### The index -/
def okM (m : Men) : Bool := okW m.1 && decide (1 ≤ m.2 ∧ m.2 ≤ 3999)
def okMs (M : List Men) : Bool := decide (M.length ≤ 40) && M.all okM
def stepE (E : List Ent) (m : Men) : List Ent := addP E m.1 [m.2]
def colF (M : List Men) (k : Nat) : List Ent := (M.take k).foldl stepE []
def colS (M : List Men) : List Ent := if okMs M = true then M.foldl stepE [] else []
theorem colF_zero (M : List Men) : colF M 0 = [] := rfl
theorem colF_succ (M : List Men) (k : Nat) (h : k < M.length) : colF M (k + 1) = addP (colF M k) (mw M k) [mp M k] := by
  unfold colF
  rw [List.take_succ_eq_append_getElem h, List.foldl_append, men_at M k h]; rfl
theorem colF_end (M : List Men) : colF M M.length = M.foldl stepE [] := by unfold colF; rw [List.take_length]
theorem addN_len (n : Int) : ∀ L, (addN L n).length ≤ L.length + 1
  | [] => by simp [addN]
  | x :: r => by
    rw [addN]
    split
    · have := addN_len n r; simp; omega
    · split <;> simp
theorem uni_len : ∀ (P L : List Int), (uni L P).length ≤ L.length + P.length
  | [], L => by simp [uni]
  | n :: P, L => by
    have h1 := uni_len P (addN L n)
    have h2 := addN_len n L
    show (uni (addN L n) P).length ≤ _
    simp only [List.length_cons]; omega
theorem addP_len (w : ByteArray) (P : List Int) : ∀ E, (addP E w P).length ≤ E.length + 1
  | [] => by simp [addP]
  | (v, L) :: r => by
    rw [addP]
    split
    · have := addP_len w P r; simp; omega
    · split <;> simp
theorem addP_pages (w : ByteArray) (P : List Int) (N : Nat) : ∀ E : List Ent, (∀ e ∈ E, e.2.length ≤ N) → ∀ e ∈ addP E w P, e.2.length ≤ N + P.length
  | [], _ => fun e he => by
    rw [addP, List.mem_singleton] at he; subst he
    have := uni_len P []
    simp at this; show (uni [] P).length ≤ _; omega
  | (v, L) :: r, h => fun e he => by
    rw [addP] at he
    split at he
    · rcases List.mem_cons.1 he with rfl | he
      · have := h (v, L) (by simp); simp at this ⊢; omega
      · exact addP_pages w P N r (fun e he => h e (List.mem_cons_of_mem _ he)) e he
    · split at he
      · rcases List.mem_cons.1 he with rfl | he
        · have := uni_len P L; have := h (v, L) (by simp); simp at this ⊢; omega
        · have := h e (List.mem_cons_of_mem _ he); omega
      · rcases List.mem_cons.1 he with rfl | he
        · have := uni_len P []; simp at this ⊢; omega
        · have := h e he; omega
theorem colF_ok (M : List Men) : ∀ k, k ≤ M.length → OkE (colF M k) ∧ (colF M k).length ≤ k ∧ ∀ e ∈ colF M k, e.2.length ≤ k
  | 0, _ => ⟨⟨List.Pairwise.nil, fun e he => by simp [colF] at he⟩, by simp [colF], fun e he => by simp [colF] at he⟩
  | k + 1, h => by
    obtain ⟨h1, h2, h3⟩ := colF_ok M k (by omega)
    rw [colF_succ M k (by omega)]
    exact ⟨addP_ok h1 (by simp), by have := addP_len (mw M k) [mp M k] (colF M k); omega, addP_pages _ _ _ _ h3⟩
theorem okMs_bad {M : List Men} {k : Nat} (hk : k < M.length) (h : okM (mw M k, mp M k) = false) : okMs M = false := by
  cases e : okMs M with
  | false => rfl
  | true =>
    unfold okMs at e
    rw [Bool.and_eq_true, List.all_eq_true] at e
    have := e.2 M[k] (List.getElem_mem _)
    rw [men_at M k hk, h] at this; cases this
theorem okMs_long {M : List Men} (h : 40 < M.length) : okMs M = false := by unfold okMs; rw [decide_eq_false (by omega)]; rfl
theorem okMs_of {M : List Men} (h1 : M.length ≤ 40) (h : ∀ k, k < M.length → okM (mw M k, mp M k) = true) : okMs M = true := by
  unfold okMs
  rw [decide_eq_true h1, Bool.true_and, List.all_eq_true]
  intro m hm
  obtain ⟨k, hk, rfl⟩ := List.getElem_of_mem hm
  rw [men_at M k hk]; exact h k hk
theorem colS_no {M : List Men} (h : okMs M = false) : colS M = [] := by unfold colS; rw [h]; rfl
theorem colS_ok {M : List Men} (h : okMs M = true) : colS M = colF M M.length := by unfold colS; rw [h, if_pos rfl, colF_end]
theorem okMs_le {M : List Men} (h : okMs M = true) : M.length ≤ 40 := by
  unfold okMs at h; rw [Bool.and_eq_true, decide_eq_true_eq] at h; exact h.1
theorem colS_facts (M : List Men) : OkE (colS M) ∧ (colS M).length ≤ 40 ∧ ∀ e ∈ colS M, e.2.length ≤ 40 := by
  cases h : okMs M with
  | false => rw [colS_no h]; exact ⟨⟨List.Pairwise.nil, fun e he => by simp at he⟩, by simp, fun e he => by simp at he⟩
  | true =>
    rw [colS_ok h]
    have hl := okMs_le h
    obtain ⟨h1, h2, h3⟩ := colF_ok M M.length (Nat.le_refl _)
    exact ⟨h1, by omega, fun e he => by have := h3 e he; omega⟩
end Go.Proofs.YtflnbpiegcepcaaDoor

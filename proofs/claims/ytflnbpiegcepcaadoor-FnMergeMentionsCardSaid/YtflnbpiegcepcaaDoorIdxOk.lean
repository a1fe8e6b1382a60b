/- Valid indexes as a plain function; what merging makes of them. -/
import Derived.Test.YtflnbpiegcepcaaDoorPagPlain
import Derived.Test.YtflnbpiegcepcaaDoorIdxHas
namespace Go.Proofs.YtflnbpiegcepcaaDoor
set_option linter.unusedVariables false
set_option maxRecDepth 100000

/-- An entry of a valid index, seen from the one ahead. -/
def okEnt (E : List Ent) (i : Nat) : Prop := okW (ew E i) = true ∧ okPg (ep E i) = true ∧ ep E i ≠ [] ∧ (0 < i → ltW (ew E (i - 1)) (ew E i) = true)
instance (E : List Ent) (i : Nat) : Decidable (okEnt E i) := inferInstanceAs (Decidable (_ ∧ _ ∧ _ ∧ (_ → _)))
def okI (E : List Ent) : Bool := decide (E.length ≤ 40) && decide (∀ i, i < E.length → okEnt E i)
theorem okI_of {E : List Ent} (h1 : E.length ≤ 40) (h2 : ∀ i, i < E.length → okEnt E i) : okI E = true := by
  unfold okI; rw [decide_eq_true h1, decide_eq_true h2]; rfl
theorem okI_long {E : List Ent} (h : ¬ E.length ≤ 40) : okI E = false := by unfold okI; rw [decide_eq_false h]; rfl
theorem okI_bad {E : List Ent} {i : Nat} (hi : i < E.length) (h : ¬ okEnt E i) : okI E = false := by
  unfold okI
  have : decide (∀ i, i < E.length → okEnt E i) = false := decide_eq_false (fun h2 => h (h2 i hi))
  rw [this, Bool.and_false]
theorem okI_at {E : List Ent} (h : okI E = true) : E.length ≤ 40 ∧ ∀ i, i < E.length → okEnt E i := by
  unfold okI at h; rw [Bool.and_eq_true, decide_eq_true_eq, decide_eq_true_eq] at h; exact h
theorem okI_end (E : List Ent) (h : ∀ i, i < E.length → okEnt E i) : okI E = decide ((E.length : Int) ≤ 40) := by
  by_cases hl : E.length ≤ 40
  · rw [okI_of hl h, decide_eq_true (by omega)]
  · rw [okI_long hl, decide_eq_false (by omega)]
theorem dg_ne (n : Int) : dg n ≠ [] := by
  unfold dg
  rw [Lib.decDigits]
  split <;> simp
theorem txt_ne {L : List Int} (h : L ≠ []) : txt L ≠ [] := by
  have hl : 0 < L.length := List.length_pos_iff.2 h
  rw [txt_chunk hl]
  unfold chunk
  intro e
  rw [List.append_assoc] at e
  exact dg_ne _ (List.append_eq_nil_iff.1 e).1
theorem fmtP_empty (L : List Int) : fmtP L = ⟨#[]⟩ ↔ ¬ (okPg L = true ∧ L ≠ []) := by
  unfold fmtP
  by_cases h : okPg L = true
  · rw [if_pos h]
    by_cases h2 : L = []
    · subst h2
      constructor
      · rintro _ ⟨_, h⟩; exact h rfl
      · intro _; rw [txt_nil rfl]
    · constructor
      · intro e _
        have h3 := txt_ne h2
        apply h3
        have : (⟨(txt L).toArray⟩ : ByteArray).data.toList = (⟨#[]⟩ : ByteArray).data.toList := by rw [e]
        simpa using this
      · intro e; exact absurd ⟨h, h2⟩ e
  · rw [if_neg h]
    constructor
    · rintro _ ⟨h1, _⟩; exact h h1
    · intro _; rfl

/-! ### What a valid index is -/
theorem okPg_asc {L : List Int} (h : okPg L = true) : L.length ≤ 40 ∧ Asc L ∧ ∀ x ∈ L, 1 ≤ x ∧ x ≤ 3999 := by
  obtain ⟨h1, h2⟩ := okPg_at h
  have hp : ∀ d i, i + d + 1 < L.length → pe L i < pe L (i + d + 1) := by
    intro d
    induction d with
    | zero =>
      intro i hi
      have := (h2 (i + 1) hi).2.2 (by omega)
      rwa [Nat.add_sub_cancel] at this
    | succ d ih =>
      intro i hi
      have a := ih i (by omega)
      have b := (h2 (i + d + 1 + 1) (by omega)).2.2 (by omega)
      rw [Nat.add_sub_cancel] at b
      rw [show i + (d + 1) + 1 = i + d + 1 + 1 by omega]
      omega
  have hg : ∀ i (hi : i < L.length), L[i] = pe L i := fun i hi => by simp [pe, List.getD_eq_getElem?_getD, hi]
  refine ⟨h1, List.pairwise_iff_getElem.2 fun i j hi hj hij => ?_, fun x hx => ?_⟩
  · have := hp (j - i - 1) i (by omega)
    rw [hg i hi, hg j hj]
    rwa [show i + (j - i - 1) + 1 = j by omega] at this
  · obtain ⟨i, hi, rfl⟩ := List.getElem_of_mem hx
    have := h2 i hi
    rw [hg i hi]; exact ⟨this.1, this.2.1⟩
theorem okPg_of_asc {L : List Int} (h1 : L.length ≤ 40) (h2 : Asc L) (h3 : ∀ x ∈ L, 1 ≤ x ∧ x ≤ 3999) : okPg L = true := by
  have hg : ∀ i (hi : i < L.length), L[i] = pe L i := fun i hi => by simp [pe, List.getD_eq_getElem?_getD, hi]
  refine okPg_of h1 fun i hi => ?_
  have := h3 L[i] (List.getElem_mem _)
  rw [hg i hi] at this
  refine ⟨this.1, this.2, fun h0 => ?_⟩
  have := List.pairwise_iff_getElem.1 h2 (i - 1) i (by omega) hi (by omega)
  rwa [hg _ (by omega), hg i hi] at this
theorem okE_of_at {E : List Ent} (h1 : ∀ i j, i < j → j < E.length → ltW (ew E i) (ew E j) = true) (h2 : ∀ i, i < E.length → Asc (ep E i) ∧ ep E i ≠ []) : OkE E := by
  refine ⟨List.pairwise_iff_getElem.2 fun i j hi hj hij => ?_, fun e he => ?_⟩
  · rw [ent_at E i hi, ent_at E j hj]; exact h1 i j hij hj
  · obtain ⟨i, hi, rfl⟩ := List.getElem_of_mem he
    rw [ent_at E i hi]; exact h2 i hi
theorem okI_okE {E : List Ent} (h : okI E = true) : OkE E := by
  obtain ⟨h1, h2⟩ := okI_at h
  have hp : ∀ d i, i + d + 1 < E.length → ltW (ew E i) (ew E (i + d + 1)) = true := by
    intro d
    induction d with
    | zero =>
      intro i hi
      have := (h2 (i + 1) hi).2.2.2 (by omega)
      rwa [Nat.add_sub_cancel] at this
    | succ d ih =>
      intro i hi
      have a := ih i (by omega)
      have b := (h2 (i + d + 1 + 1) (by omega)).2.2.2 (by omega)
      rw [Nat.add_sub_cancel] at b
      exact ltW_trans a b
  refine okE_of_at (fun i j hij hj => ?_) (fun i hi => ⟨(okPg_asc (h2 i hi).2.1).2.1, (h2 i hi).2.2.1⟩)
  have := hp (j - i - 1) i (by omega)
  rwa [show i + (j - i - 1) + 1 = j by omega] at this
theorem okI_of_okE {E : List Ent} (h1 : E.length ≤ 40) (h2 : OkE E) (h3 : ∀ e ∈ E, okW e.1 = true ∧ okPg e.2 = true) : okI E = true := by
  refine okI_of h1 fun i hi => ?_
  have a := h3 E[i] (List.getElem_mem _)
  rw [ent_at E i hi] at a
  exact ⟨a.1, a.2, (okE_at h2 hi).2, fun h0 => okE_lt h2 (by omega) hi⟩
theorem okI_mem {E : List Ent} (h : okI E = true) : E.length ≤ 40 ∧ ∀ e ∈ E, okW e.1 = true ∧ okPg e.2 = true ∧ e.2 ≠ [] := by
  obtain ⟨h1, h2⟩ := okI_at h
  refine ⟨h1, fun e he => ?_⟩
  obtain ⟨i, hi, rfl⟩ := List.getElem_of_mem he
  rw [ent_at E i hi]
  have := h2 i hi
  exact ⟨this.1, this.2.1, this.2.2.1⟩
theorem okI_nil : okI [] = true := by rfl

/-! ### Merging -/
def addE (E : List Ent) (e : Ent) : List Ent := addP E e.1 e.2
def mrgF (a b : List Ent) : List Ent := (a ++ b).foldl addE []
def mrgS (a b : List Ent) : List Ent := if (okI a && okI b && okI (mrgF a b)) = true then mrgF a b else []
theorem has_cons (v : ByteArray) (M : List Int) (s : List Ent) (u : ByteArray) (x : Int) : Has ((v, M) :: s) u x ↔ u = v ∧ x ∈ M ∨ Has s u x := by
  unfold Has
  constructor
  · rintro ⟨L', hm, hx⟩
    rcases List.mem_cons.1 hm with e | hm
    · injection e with e1 e2; subst e1 e2; exact .inl ⟨rfl, hx⟩
    · exact .inr ⟨L', hm, hx⟩
  · rintro (⟨rfl, hx⟩ | ⟨L', hm, hx⟩)
    · exact ⟨M, by simp, hx⟩
    · exact ⟨L', List.mem_cons_of_mem _ hm, hx⟩
theorem has_append (E F : List Ent) (u : ByteArray) (x : Int) : Has (E ++ F) u x ↔ Has E u x ∨ Has F u x := by
  unfold Has
  constructor
  · rintro ⟨L, hm, hx⟩
    rcases List.mem_append.1 hm with hm | hm
    · exact .inl ⟨L, hm, hx⟩
    · exact .inr ⟨L, hm, hx⟩
  · rintro (⟨L, hm, hx⟩ | ⟨L, hm, hx⟩)
    · exact ⟨L, List.mem_append_left _ hm, hx⟩
    · exact ⟨L, List.mem_append_right _ hm, hx⟩
theorem has_nil (u : ByteArray) (x : Int) : ¬ Has [] u x := by rintro ⟨L, hm, _⟩; simp at hm
theorem foldE_has (u : ByteArray) (x : Int) : ∀ (B E : List Ent), OkE E → (∀ e ∈ B, e.2 ≠ []) → OkE (B.foldl addE E) ∧ (Has (B.foldl addE E) u x ↔ Has E u x ∨ Has B u x)
  | [], E, h, _ => ⟨h, by simp [has_nil]⟩
  | (v, P) :: B, E, h, hn => by
    have h1 : OkE (addE E (v, P)) := addP_ok h (hn (v, P) (by simp))
    obtain ⟨a, b⟩ := foldE_has u x B _ h1 (fun e he => hn e (List.mem_cons_of_mem _ he))
    refine ⟨a, ?_⟩
    rw [List.foldl_cons, b, has_cons]
    have h2 : Has (addE E (v, P)) u x ↔ Has E u x ∨ u = v ∧ x ∈ P := addP_has u x h
    rw [h2, or_assoc]
theorem mrgF_ok {a b : List Ent} (ha : ∀ e ∈ a, e.2 ≠ []) (hb : ∀ e ∈ b, e.2 ≠ []) : OkE (mrgF a b) ∧ ∀ u x, Has (mrgF a b) u x ↔ Has a u x ∨ Has b u x := by
  have hn : ∀ e ∈ a ++ b, e.2 ≠ [] := fun e he => by
    rcases List.mem_append.1 he with h | h
    · exact ha e h
    · exact hb e h
  refine ⟨(foldE_has ⟨#[]⟩ 0 (a ++ b) [] okE_nil hn).1, fun u x => ?_⟩
  have := (foldE_has u x (a ++ b) [] okE_nil hn).2
  unfold mrgF
  rw [this, has_append]
  simp [has_nil]
theorem okE_ne {E : List Ent} (h : OkE E) : ∀ e ∈ E, e.2 ≠ [] := fun e he => (h.2 e he).2
theorem mrgF_comm {a b : List Ent} (ha : OkE a) (hb : OkE b) : mrgF a b = mrgF b a := by
  obtain ⟨h1, h2⟩ := mrgF_ok (okE_ne ha) (okE_ne hb)
  obtain ⟨h3, h4⟩ := mrgF_ok (okE_ne hb) (okE_ne ha)
  exact okE_ext h1 h3 fun u x => by rw [h2, h4, or_comm]
theorem mrgF_self {a : List Ent} (ha : OkE a) : mrgF a a = a := by
  obtain ⟨h1, h2⟩ := mrgF_ok (okE_ne ha) (okE_ne ha)
  exact okE_ext h1 ha fun u x => by rw [h2, or_self]
theorem mrgF_nil {a : List Ent} (ha : OkE a) : mrgF a [] = a := by
  obtain ⟨h1, h2⟩ := mrgF_ok (okE_ne ha) (okE_ne okE_nil)
  exact okE_ext h1 ha fun u x => by rw [h2]; simp [has_nil]
theorem mrgS_no1 {a b : List Ent} (h : okI a = false) : mrgS a b = [] := by unfold mrgS; rw [h]; rfl
theorem mrgS_no2 {a b : List Ent} (h : okI b = false) : mrgS a b = [] := by unfold mrgS; rw [h, Bool.and_false]; rfl
theorem mrgS_no3 {a b : List Ent} (h : okI (mrgF a b) = false) : mrgS a b = [] := by unfold mrgS; rw [h, Bool.and_false]; rfl
theorem mrgS_yes {a b : List Ent} (h1 : okI a = true) (h2 : okI b = true) (h3 : okI (mrgF a b) = true) : mrgS a b = mrgF a b := by unfold mrgS; rw [h1, h2, h3]; rfl
theorem mrgS_ok (a b : List Ent) : okI (mrgS a b) = true := by
  unfold mrgS
  split
  · rename_i h
    rw [Bool.and_eq_true] at h; exact h.2
  · exact okI_nil
theorem mrgS_comm (a b : List Ent) : mrgS a b = mrgS b a := by
  cases ha : okI a with
  | false => rw [mrgS_no1 ha, mrgS_no2 ha]
  | true =>
    cases hb : okI b with
    | false => rw [mrgS_no1 hb, mrgS_no2 hb]
    | true =>
      have h := mrgF_comm (okI_okE ha) (okI_okE hb)
      cases hc : okI (mrgF a b) with
      | false => rw [mrgS_no3 hc, mrgS_no3 (by rw [← h]; exact hc)]
      | true => rw [mrgS_yes ha hb hc, mrgS_yes hb ha (by rw [← h]; exact hc), h]
theorem mrgS_self {a : List Ent} (ha : okI a = true) : mrgS a a = a := by
  have h := mrgF_self (okI_okE ha)
  rw [mrgS_yes ha ha (by rw [h]; exact ha), h]
theorem mrgS_nil_yes {a : List Ent} (ha : okI a = true) : mrgS a [] = a := by
  have h := mrgF_nil (okI_okE ha)
  rw [mrgS_yes ha okI_nil (by rw [h]; exact ha), h]
theorem mrgS_len (a b : List Ent) : (mrgS a b).length ≤ 40 := (okI_at (mrgS_ok a b)).1
/-! ### Steps of the program's loop -/
theorem foldE_take (L : List Ent) (E : List Ent) (k : Nat) (h : k < L.length) : (L.take (k + 1)).foldl addE E = addP ((L.take k).foldl addE E) (ew L k) (ep L k) := by
  rw [List.take_succ_eq_append_getElem h, List.foldl_append, ent_at L k h]; rfl
theorem foldE_fits (m : Nat) : ∀ (B E : List Ent), OkE E → (∀ e ∈ B, e.2 ≠ [] ∧ e.2.length ≤ m) → OkE (B.foldl addE E) ∧ (B.foldl addE E).length ≤ E.length + B.length ∧ ∀ N, (∀ e ∈ E, e.2.length ≤ N) → ∀ e ∈ B.foldl addE E, e.2.length ≤ N + B.length * m
  | [], E, h, _ => ⟨h, by simp, fun N hN e he => by have := hN e he; simp; omega⟩
  | (v, P) :: B, E, h, hn => by
    have h0 := hn (v, P) (by simp)
    have h1 : OkE (addE E (v, P)) := addP_ok h h0.1
    obtain ⟨a, b, c⟩ := foldE_fits m B _ h1 (fun e he => hn e (List.mem_cons_of_mem _ he))
    have hl : (addE E (v, P)).length ≤ E.length + 1 := addP_len v P E
    refine ⟨a, by rw [List.foldl_cons, List.length_cons]; omega, fun N hN e he => ?_⟩
    have h3 := c (N + P.length) (addP_pages v P N E hN) e he
    have h4 : P.length ≤ m := h0.2
    rw [List.length_cons, Nat.succ_mul]
    omega
theorem ew_left {a b : List Ent} {k : Nat} (h : k < a.length) : ew (a ++ b) k = ew a k ∧ ep (a ++ b) k = ep a k := by
  simp [ew, ep, List.getD_eq_getElem?_getD, List.getElem?_append_left h]
theorem ew_right {a b : List Ent} {k : Nat} : ew (a ++ b) (a.length + k) = ew b k ∧ ep (a ++ b) (a.length + k) = ep b k := by
  simp [ew, ep, List.getD_eq_getElem?_getD, List.getElem?_append_right]
/-- What the program's loop holds at every step. -/
theorem foldE_at {a b : List Ent} (ha : okI a = true) (hb : okI b = true) (m : Nat) : OkE (((a ++ b).take m).foldl addE []) ∧ (((a ++ b).take m).foldl addE []).length ≤ 80 ∧ ∀ e ∈ ((a ++ b).take m).foldl addE [], e.2.length ≤ 3200 := by
  obtain ⟨la, pa⟩ := okI_mem ha
  obtain ⟨lb, pb⟩ := okI_mem hb
  have hl : ((a ++ b).take m).length ≤ 80 := by rw [List.length_take, List.length_append]; omega
  have hp : ∀ e ∈ (a ++ b).take m, e.2 ≠ [] ∧ e.2.length ≤ 40 := fun e he => by
    rcases List.mem_append.1 (List.mem_of_mem_take he) with h | h
    · exact ⟨(pa e h).2.2, (okPg_asc (pa e h).2.1).1⟩
    · exact ⟨(pb e h).2.2, (okPg_asc (pb e h).2.1).1⟩
  obtain ⟨h1, h2, h3⟩ := foldE_fits 40 _ [] okE_nil hp
  refine ⟨h1, by simpa using Nat.le_trans h2 (by simpa using hl), fun e he => ?_⟩
  have := h3 0 (by simp) e he
  omega
theorem pages_at {a b : List Ent} (ha : okI a = true) (hb : okI b = true) {m : Nat} (hm : m < (a ++ b).length) : ep (a ++ b) m ≠ [] ∧ (ep (a ++ b) m).length ≤ 40 := by
  have hp : ∀ e ∈ a ++ b, e.2 ≠ [] ∧ e.2.length ≤ 40 := fun e he => by
    rcases List.mem_append.1 he with h | h
    · have := (okI_mem ha).2 e h; exact ⟨this.2.2, (okPg_asc this.2.1).1⟩
    · have := (okI_mem hb).2 e h; exact ⟨this.2.2, (okPg_asc this.2.1).1⟩
  have := hp (a ++ b)[m] (List.getElem_mem _)
  rw [ent_at _ m hm] at this
  exact this
theorem words_ok {a b : List Ent} (ha : okI a = true) (hb : okI b = true) : ∀ e ∈ mrgF a b, okW e.1 = true := by
  obtain ⟨h1, h2⟩ := mrgF_ok (fun e h => ((okI_mem ha).2 e h).2.2) (fun e h => ((okI_mem hb).2 e h).2.2)
  intro e he
  obtain ⟨x, r, hr⟩ := List.exists_cons_of_ne_nil (h1.2 e he).2
  have h3 : Has (mrgF a b) e.1 x := ⟨e.2, he, by rw [hr]; simp⟩
  rcases (h2 e.1 x).1 h3 with ⟨L, hL, _⟩ | ⟨L, hL, _⟩
  · exact ((okI_mem ha).2 _ hL).1
  · exact ((okI_mem hb).2 _ hL).1
theorem okW_size {s : ByteArray} (h : okW s = true) : s.size ≤ 20 := by
  unfold okW at h
  rw [Bool.and_eq_true, decide_eq_true_eq] at h
  exact h.1.2
theorem words_at {E : List Ent} (h : ∀ e ∈ E, e.1.size ≤ 20) : ∀ i, i < E.length → (ew E i).size ≤ maxLen := by
  intro i hi
  have := h E[i] (List.getElem_mem _)
  rw [ent_at E i hi] at this
  unfold maxLen
  simp only at this
  omega
/-! ### Steps of the reference's loop -/
structure Mid (a b E : List Ent) (i k : Nat) : Prop where
  ok : OkE E
  has : ∀ u x, Has E u x ↔ Has (a.take i) u x ∨ Has (b.take k) u x
  la : i < a.length → ∀ e ∈ E, ltW e.1 (ew a i) = true
  lb : k < b.length → ∀ e ∈ E, ltW e.1 (ew b k) = true
  len : E.length ≤ i + k
theorem has_take {a : List Ent} {i : Nat} (h : i < a.length) (u : ByteArray) (x : Int) : Has (a.take (i + 1)) u x ↔ Has (a.take i) u x ∨ u = ew a i ∧ x ∈ ep a i := by
  rw [List.take_succ_eq_append_getElem h, has_append, ent_at a i h, has_cons]
  simp [has_nil]
theorem okE_snoc {E : List Ent} {s : ByteArray} {P : List Int} (h : OkE E) (hl : ∀ e ∈ E, ltW e.1 s = true) (hP : Asc P) (hn : P ≠ []) : OkE (E ++ [(s, P)]) ∧ ∀ u x, Has (E ++ [(s, P)]) u x ↔ Has E u x ∨ u = s ∧ x ∈ P := by
  refine ⟨⟨List.pairwise_append.2 ⟨h.1, by simp, fun e he f hf => ?_⟩, fun e he => ?_⟩, fun u x => ?_⟩
  · rw [List.mem_singleton] at hf; subst hf; exact hl e he
  · rcases List.mem_append.1 he with he | he
    · exact h.2 e he
    · rw [List.mem_singleton] at he; subst he; exact ⟨hP, hn⟩
  · rw [has_append, has_cons]; simp [has_nil]
theorem Mid.zero (a b : List Ent) : Mid a b [] 0 0 := ⟨okE_nil, fun u x => by simp [has_nil], fun _ e he => by simp at he, fun _ e he => by simp at he, by simp⟩
theorem lt_snoc {E : List Ent} {s t : ByteArray} {P : List Int} (h : ∀ e ∈ E, ltW e.1 s = true) (hst : ltW s t = true) : ∀ e ∈ E ++ [(s, P)], ltW e.1 t = true := by
  intro e he
  rcases List.mem_append.1 he with he | he
  · exact ltW_trans (h e he) hst
  · rw [List.mem_singleton] at he; subst he; exact hst
theorem Mid.left {a b E : List Ent} {i k : Nat} (h : Mid a b E i k) (ha : OkE a) (hi : i < a.length) (hlt : k < b.length → ltW (ew a i) (ew b k) = true) : Mid a b (E ++ [(ew a i, ep a i)]) (i + 1) k := by
  obtain ⟨p1, p2⟩ := okE_at ha hi
  obtain ⟨h1, h2⟩ := okE_snoc h.ok (h.la hi) p1 p2
  refine ⟨h1, fun u x => ?_, fun hi2 => lt_snoc (h.la hi) (okE_lt ha (by omega) hi2), fun hk => lt_snoc (h.la hi) (hlt hk), ?_⟩
  · rw [h2, h.has, has_take hi]
    constructor
    · rintro ((h | h) | h); exact .inl (.inl h); exact .inr h; exact .inl (.inr h)
    · rintro ((h | h) | h); exact .inl (.inl h); exact .inr h; exact .inl (.inr h)
  · have := h.len; simp; omega
theorem Mid.right {a b E : List Ent} {i k : Nat} (h : Mid a b E i k) (hb : OkE b) (hk : k < b.length) (hlt : i < a.length → ltW (ew b k) (ew a i) = true) : Mid a b (E ++ [(ew b k, ep b k)]) i (k + 1) := by
  obtain ⟨p1, p2⟩ := okE_at hb hk
  obtain ⟨h1, h2⟩ := okE_snoc h.ok (h.lb hk) p1 p2
  refine ⟨h1, fun u x => ?_, fun hi => lt_snoc (h.lb hk) (hlt hi), fun hk2 => lt_snoc (h.lb hk) (okE_lt hb (by omega) hk2), ?_⟩
  · rw [h2, h.has, has_take hk, or_assoc]
  · have := h.len; simp; omega
theorem Mid.both {a b E : List Ent} {i k : Nat} (h : Mid a b E i k) (ha : OkE a) (hb : OkE b) (hi : i < a.length) (hk : k < b.length) (he : ew b k = ew a i) : Mid a b (E ++ [(ew a i, uni (ep a i) (ep b k))]) (i + 1) (k + 1) := by
  obtain ⟨p1, p2⟩ := okE_at ha hi
  obtain ⟨q1, q2⟩ := okE_at hb hk
  obtain ⟨h1, h2⟩ := okE_snoc h.ok (h.la hi) (uni_asc (ep b k) _ p1) (uni_nil_ne (ep a i) q2)
  refine ⟨h1, fun u x => ?_, fun hi2 => lt_snoc (h.la hi) (okE_lt ha (by omega) hi2), fun hk2 => lt_snoc (h.la hi) (by rw [← he]; exact okE_lt hb (by omega) hk2), ?_⟩
  · rw [h2, h.has, has_take hi, has_take hk, uni_mem, he]
    constructor
    · rintro ((h | h) | ⟨h, g | g⟩)
      · exact .inl (.inl h)
      · exact .inr (.inl h)
      · exact .inl (.inr ⟨h, g⟩)
      · exact .inr (.inr ⟨h, g⟩)
    · rintro ((h | ⟨h, g⟩) | (h | ⟨h, g⟩))
      · exact .inl (.inl h)
      · exact .inr ⟨h, .inl g⟩
      · exact .inl (.inr h)
      · exact .inr ⟨h, .inr g⟩
  · have := h.len; simp; omega
theorem Mid.done {a b E : List Ent} (h : Mid a b E a.length b.length) (ha : OkE a) (hb : OkE b) : E = mrgF a b := by
  obtain ⟨h1, h2⟩ := mrgF_ok (okE_ne ha) (okE_ne hb)
  refine okE_ext h.ok h1 fun u x => ?_
  rw [h.has, h2, List.take_length, List.take_length]

/-! ### Indexes of mentions -/
theorem okMs_app {A B : List Men} (ha : ∀ m ∈ A, okM m = true) (hb : ∀ m ∈ B, okM m = true) (h : A.length + B.length ≤ 40) : okMs (A ++ B) = true := by
  unfold okMs
  rw [decide_eq_true (by rw [List.length_append]; exact h), Bool.true_and, List.all_eq_true]
  intro m hm
  rcases List.mem_append.1 hm with hm | hm
  · exact ha m hm
  · exact hb m hm
theorem okM_at {m : Men} (h : okM m = true) : okW m.1 = true ∧ 1 ≤ m.2 ∧ m.2 ≤ 3999 := by
  unfold okM at h
  rw [Bool.and_eq_true, decide_eq_true_eq] at h; exact h
theorem okI_colS {M : List Men} (h : okMs M = true) : okI (colS M) = true := by
  obtain ⟨h1, h2, h3⟩ := colS_facts M
  have hm : ∀ m ∈ M, okM m = true := by
    unfold okMs at h; rw [Bool.and_eq_true, List.all_eq_true] at h; exact h.2
  refine okI_of_okE h2 h1 fun e he => ?_
  have hx : ∀ x ∈ e.2, okM (e.1, x) = true := fun x hx => hm _ ((colS_has M e.1 x h).1 ⟨e.2, he, hx⟩)
  obtain ⟨n1, n2⟩ := h1.2 e he
  obtain ⟨x, r, hr⟩ := List.exists_cons_of_ne_nil n2
  exact ⟨(okM_at (hx x (by rw [hr]; simp))).1, okPg_of_asc (h3 e he) n1 fun x hx' => (okM_at (hx x hx')).2⟩
theorem mrgS_colS {A B : List Men} (ha : ∀ m ∈ A, okM m = true) (hb : ∀ m ∈ B, okM m = true) (h : A.length + B.length ≤ 40) : mrgS (colS A) (colS B) = colS (A ++ B) := by
  have oa : okMs A = true := by have := okMs_app ha (B := []) (by simp) (by simp; omega); rwa [List.append_nil] at this
  have ob : okMs B = true := by have := okMs_app (A := []) (by simp) hb (by simp; omega); rwa [List.nil_append] at this
  have oc := okMs_app ha hb h
  have e : mrgF (colS A) (colS B) = colS (A ++ B) := by
    obtain ⟨h1, h2⟩ := mrgF_ok (okE_ne (colS_facts A).1) (okE_ne (colS_facts B).1)
    refine okE_ext h1 (colS_facts _).1 fun u x => ?_
    rw [h2, colS_has A u x oa, colS_has B u x ob, colS_has _ u x oc, List.mem_append]
  rw [mrgS_yes (okI_colS oa) (okI_colS ob) (by rw [e]; exact okI_colS oc), e]
end Go.Proofs.YtflnbpiegcepcaaDoor

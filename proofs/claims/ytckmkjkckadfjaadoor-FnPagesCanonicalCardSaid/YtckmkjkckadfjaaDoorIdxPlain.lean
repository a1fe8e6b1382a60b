/- Indexes as plain lists: words in the order of the alphabet, pages in ascending order. -/
import Derived.Test.YtckmkjkckadfjaaDoorBase
import Derived.Lib.SlicesCompact
import Derived.Lib.Strings
namespace Go.Proofs.YtckmkjkckadfjaaDoor
set_option linter.unusedVariables false

/-! ### Words -/
theorem bl_irrefl : ∀ x : List UInt8, Op.bytesLess x x = false
  | [] => rfl
  | a :: x => by
    rw [Op.bytesLess, bl_irrefl x]
    have : ¬ a < a := by rw [UInt8.lt_iff_toNat_lt]; omega
    simp [this]
theorem bl_trans : ∀ x y z : List UInt8, Op.bytesLess x y = true → Op.bytesLess y z = true → Op.bytesLess x z = true
  | _, [], _, h, _ => by rw [Op.bytesLess] at h; cases h
  | _, _ :: _, [], _, h => by rw [Op.bytesLess] at h; cases h
  | [], _ :: _, _ :: _, _, _ => rfl
  | a :: x, b :: y, c :: z, h1, h2 => by
    rw [Op.bytesLess, Bool.or_eq_true, Bool.and_eq_true, decide_eq_true_eq, beq_iff_eq] at *
    rcases h1 with h1 | ⟨rfl, h1⟩
    · rcases h2 with h2 | ⟨rfl, h2⟩
      · left; rw [UInt8.lt_iff_toNat_lt] at *; omega
      · exact .inl h1
    · rcases h2 with h2 | ⟨rfl, h2⟩
      · exact .inl h2
      · exact .inr ⟨rfl, bl_trans x y z h1 h2⟩
theorem bl_tri : ∀ x y : List UInt8, Op.bytesLess x y = false → Op.bytesLess y x = false → x = y
  | [], [], _, _ => rfl
  | [], _ :: _, h, _ => by rw [Op.bytesLess] at h; cases h
  | _ :: _, [], _, h => by rw [Op.bytesLess] at h; cases h
  | a :: x, b :: y, h1, h2 => by
    rw [Op.bytesLess, Bool.or_eq_false_iff, decide_eq_false_iff_not] at h1 h2
    have hab : a = b := by
      have h3 := h1.1; have h4 := h2.1
      rw [UInt8.lt_iff_toNat_lt] at h3 h4
      exact UInt8.toNat_inj.1 (by omega)
    subst hab
    rw [bl_tri x y (by simpa using h1.2) (by simpa using h2.2)]
def ltW (a b : ByteArray) : Bool := Op.bytesLess a.toList b.toList
theorem toList_inj {a b : ByteArray} (h : a.toList = b.toList) : a = b := by
  rw [Lib.toList_data, Lib.toList_data] at h
  exact ByteArray.ext (Array.toList_inj.1 h)
theorem ltW_irrefl (a : ByteArray) : ltW a a = false := bl_irrefl _
theorem ltW_trans {a b c : ByteArray} (h1 : ltW a b = true) (h2 : ltW b c = true) : ltW a c = true := bl_trans _ _ _ h1 h2
theorem ltW_tri {a b : ByteArray} (h1 : ltW a b = false) (h2 : ltW b a = false) : a = b := toList_inj (bl_tri _ _ h1 h2)
theorem ltW_asymm {a b : ByteArray} (h : ltW a b = true) : ltW b a = false := by
  cases e : ltW b a with
  | false => rfl
  | true => have := ltW_trans h e; rw [ltW_irrefl] at this; cases this
theorem ltW_ne {a b : ByteArray} (h : ltW a b = true) : a ≠ b := by rintro rfl; rw [ltW_irrefl] at h; cases h

/-! ### Ascending lists of numbers -/
abbrev Asc (L : List Int) : Prop := L.Pairwise (· < ·)
def addN : List Int → Int → List Int
  | [], n => [n]
  | x :: r, n => if x < n then x :: addN r n else if x = n then x :: r else n :: x :: r
theorem addN_mem (n x : Int) : ∀ L, x ∈ addN L n ↔ x ∈ L ∨ x = n
  | [] => by simp [addN]
  | y :: r => by
    have ih := addN_mem n x r
    rw [addN]
    split
    · rw [List.mem_cons, ih, List.mem_cons, or_assoc]
    · split
      · rename_i h; subst h; simp only [List.mem_cons]; constructor
        · intro h; exact .inl h
        · rintro (h | rfl); exact h; exact .inl rfl
      · simp only [List.mem_cons]; constructor
        · rintro (h | h); exact .inr h; exact .inl h
        · rintro (h | h); exact .inr h; exact .inl h
theorem addN_asc (n : Int) : ∀ L, Asc L → Asc (addN L n)
  | [], _ => by simp [addN, Asc]
  | y :: r, h => by
    rw [Asc, List.pairwise_cons] at h
    rw [addN]
    split
    · rename_i hyn
      refine List.pairwise_cons.2 ⟨fun x hx => ?_, addN_asc n r h.2⟩
      rcases (addN_mem n x r).1 hx with hx | rfl
      · exact h.1 x hx
      · exact hyn
    · split
      · exact List.pairwise_cons.2 h
      · refine List.pairwise_cons.2 ⟨fun x hx => ?_, List.pairwise_cons.2 h⟩
        rcases List.mem_cons.1 hx with rfl | hx
        · omega
        · have := h.1 x hx; omega
def uni (L P : List Int) : List Int := P.foldl addN L
theorem uni_mem (x : Int) : ∀ (P L : List Int), x ∈ uni L P ↔ x ∈ L ∨ x ∈ P
  | [], L => by simp [uni]
  | n :: P, L => by
    show x ∈ uni (addN L n) P ↔ _
    rw [uni_mem x P, addN_mem, List.mem_cons, or_assoc]
theorem uni_asc : ∀ (P L : List Int), Asc L → Asc (uni L P)
  | [], _, h => h
  | n :: P, L, h => uni_asc P _ (addN_asc n L h)
theorem asc_ext : ∀ {L M : List Int}, Asc L → Asc M → (∀ x, x ∈ L ↔ x ∈ M) → L = M
  | [], [], _, _, _ => rfl
  | [], y :: M, _, _, h => absurd ((h y).2 (by simp)) (by simp)
  | x :: L, [], _, _, h => absurd ((h x).1 (by simp)) (by simp)
  | x :: L, y :: M, hL, hM, h => by
    rw [Asc, List.pairwise_cons] at hL hM
    have hxy : x = y := by
      rcases List.mem_cons.1 ((h x).1 (by simp)) with e | hx
      · exact e
      · rcases List.mem_cons.1 ((h y).2 (by simp)) with e | hy
        · exact e.symm
        · have := hL.1 y hy; have := hM.1 x hx; omega
    subst hxy
    rw [asc_ext hL.2 hM.2 (fun z => ?_)]
    constructor
    · intro hz
      rcases List.mem_cons.1 ((h z).1 (List.mem_cons_of_mem _ hz)) with rfl | hz'
      · exact absurd (hL.1 z hz) (by omega)
      · exact hz'
    · intro hz
      rcases List.mem_cons.1 ((h z).2 (List.mem_cons_of_mem _ hz)) with rfl | hz'
      · exact absurd (hM.1 z hz) (by omega)
      · exact hz'
/-- What sorting and compacting gives. -/
theorem compactUpTo_asc (d : Array Int) (hs : ∀ i j, i < j → j < d.size → d[i]! ≤ d[j]!) : ∀ m, m ≤ d.size → Asc (Lib.compactUpTo d m) ∧ (∀ x, x ∈ Lib.compactUpTo d m ↔ ∃ j, j < m ∧ d[j]! = x) := by
  intro m
  induction m with
  | zero => intro _; exact ⟨by simp [Lib.compactUpTo, Asc], fun x => by simp [Lib.compactUpTo]⟩
  | succ m ih =>
    intro hm
    obtain ⟨ia, im⟩ := ih (by omega)
    rw [Lib.compactUpTo_succ]
    cases hk : Lib.keeps d m with
    | true =>
      have hlt : ∀ j, j < m → d[j]! < d[m]! := by
        intro j hj
        have h1 := hs (m - 1) m (by omega) (by omega)
        have h2 : d[j]! ≤ d[m - 1]! := by
          by_cases e : j = m - 1
          · subst e; exact Int.le_refl _
          · exact hs j (m - 1) (by omega) (by omega)
        have h3 : d[m]! ≠ d[m - 1]! := by
          unfold Lib.keeps at hk
          simp at hk
          rcases hk with hk | hk
          · omega
          · exact hk
        omega
      refine ⟨?_, fun x => ?_⟩
      · simp only [if_true, Asc]
        rw [List.pairwise_append]
        refine ⟨ia, by simp, fun x hx y hy => ?_⟩
        obtain ⟨j, hj, rfl⟩ := (im x).1 hx
        rw [List.mem_singleton.1 hy]
        exact hlt j hj
      · simp only [if_true, List.mem_append, List.mem_singleton, im]
        constructor
        · rintro (⟨j, hj, e⟩ | rfl)
          · exact ⟨j, by omega, e⟩
          · exact ⟨m, by omega, rfl⟩
        · rintro ⟨j, hj, e⟩
          by_cases ej : j = m
          · subst ej; exact .inr e.symm
          · exact .inl ⟨j, by omega, e⟩
    | false =>
      refine ⟨by simpa using ia, fun x => ?_⟩
      simp only [Bool.false_eq_true, if_false, List.append_nil, im]
      constructor
      · rintro ⟨j, hj, e⟩; exact ⟨j, by omega, e⟩
      · rintro ⟨j, hj, e⟩
        by_cases ej : j = m
        · subst ej
          have h3 : d[j]! = d[j - 1]! ∧ j ≠ 0 := by
            unfold Lib.keeps at hk
            simp at hk
            exact ⟨hk.2, hk.1⟩
          exact ⟨j - 1, by omega, by rw [← h3.1]; exact e⟩
        · exact ⟨j, by omega, e⟩
theorem sort_compact (zs : List Int) : Asc (Lib.compact (zs.mergeSort fun x y => decide (x ≤ y))) ∧ ∀ x, x ∈ Lib.compact (zs.mergeSort fun x y => decide (x ≤ y)) ↔ x ∈ zs := by
  have hp : (zs.mergeSort fun x y => decide (x ≤ y)).Pairwise (fun x y : Int => decide (x ≤ y) = true) :=
    List.pairwise_mergeSort (fun a b c h1 h2 => by simp at *; omega) (fun a b => by simp; omega) zs
  have hm : ∀ x, x ∈ (zs.mergeSort fun x y => decide (x ≤ y)) ↔ x ∈ zs := fun x => List.mem_mergeSort
  generalize (zs.mergeSort fun x y => decide (x ≤ y)) = ys at *
  have h := compactUpTo_asc ys.toArray (fun i j hij hj => by
    rw [List.pairwise_iff_getElem] at hp
    have hj' : j < ys.length := by simpa using hj
    have := hp i j (by omega) hj' hij
    rw [getElem!_pos ys.toArray i (by simpa using (by omega : i < ys.length)), getElem!_pos ys.toArray j (by simpa using hj')]
    simpa using this) ys.length (by simp)
  refine ⟨h.1, fun x => ?_⟩
  rw [← hm]
  show x ∈ Lib.compactUpTo ys.toArray ys.length ↔ _
  rw [h.2]
  constructor
  · rintro ⟨j, hj, rfl⟩
    rw [getElem!_pos ys.toArray j (by simpa using hj)]
    simp
  · intro hx
    obtain ⟨j, hj, rfl⟩ := List.getElem_of_mem hx
    exact ⟨j, hj, by rw [getElem!_pos ys.toArray j (by simpa using hj)]; simp⟩
theorem sort_compact_uni (L P : List Int) (hL : Asc L) : Lib.compact ((L ++ P).mergeSort fun x y => decide (x ≤ y)) = uni L P := by
  obtain ⟨h1, h2⟩ := sort_compact (L ++ P)
  exact asc_ext h1 (uni_asc P L hL) (fun x => by rw [h2, uni_mem, List.mem_append])

/-! ### Indexes -/
abbrev Ent : Type := ByteArray × List Int
def addP : List Ent → ByteArray → List Int → List Ent
  | [], w, P => [(w, uni [] P)]
  | (v, L) :: r, w, P => if ltW v w = true then (v, L) :: addP r w P else if v = w then (v, uni L P) :: r else (w, uni [] P) :: (v, L) :: r
/-- Words ascend, pages ascend, no entry is empty. -/
def OkE (E : List Ent) : Prop := E.Pairwise (fun a b => ltW a.1 b.1 = true) ∧ ∀ e ∈ E, Asc e.2 ∧ e.2 ≠ []
def Has (E : List Ent) (w : ByteArray) (x : Int) : Prop := ∃ L, (w, L) ∈ E ∧ x ∈ L
theorem uni_nil_ne {P : List Int} (L : List Int) (h : P ≠ []) : uni L P ≠ [] := by
  cases P with
  | nil => exact absurd rfl h
  | cons n P =>
    intro e
    have := (uni_mem n (n :: P) L).2 (.inr (by simp))
    rw [e] at this; simp at this
theorem addP_words (E : List Ent) (w : ByteArray) (P : List Int) : ∀ e ∈ addP E w P, e.1 = w ∨ ∃ e' ∈ E, e'.1 = e.1 := by
  induction E with
  | nil => intro e he; rw [addP, List.mem_singleton] at he; subst he; exact .inl rfl
  | cons a r ih =>
    obtain ⟨v, L⟩ := a
    intro e he
    rw [addP] at he
    split at he
    · rcases List.mem_cons.1 he with rfl | he
      · exact .inr ⟨_, by simp, rfl⟩
      · rcases ih e he with h | ⟨e', h, h2⟩
        · exact .inl h
        · exact .inr ⟨e', List.mem_cons_of_mem _ h, h2⟩
    · split at he
      · rename_i h1 h2; subst h2
        rcases List.mem_cons.1 he with rfl | he
        · exact .inl rfl
        · exact .inr ⟨e, List.mem_cons_of_mem _ he, rfl⟩
      · rcases List.mem_cons.1 he with rfl | he
        · exact .inl rfl
        · exact .inr ⟨e, he, rfl⟩
theorem addP_ok {E : List Ent} {w : ByteArray} {P : List Int} (h : OkE E) (hP : P ≠ []) : OkE (addP E w P) := by
  induction E with
  | nil => exact ⟨by simp [addP], fun e he => by rw [addP, List.mem_singleton] at he; subst he; exact ⟨uni_asc P [] List.Pairwise.nil, uni_nil_ne [] hP⟩⟩
  | cons a r ih =>
    obtain ⟨v, L⟩ := a
    obtain ⟨h1, h2⟩ := h
    rw [List.pairwise_cons] at h1
    have hr : OkE r := ⟨h1.2, fun e he => h2 e (List.mem_cons_of_mem _ he)⟩
    have ha := h2 (v, L) (by simp)
    rw [addP]
    split
    · rename_i hv
      obtain ⟨i1, i2⟩ := ih hr
      refine ⟨List.pairwise_cons.2 ⟨fun e he => ?_, i1⟩, fun e he => ?_⟩
      · rcases addP_words r w P e he with e1 | ⟨e', he', e1⟩
        · rw [e1]; exact hv
        · rw [← e1]; exact h1.1 e' he'
      · rcases List.mem_cons.1 he with rfl | he
        · exact ha
        · exact i2 e he
    · split
      · rename_i hv; subst hv
        refine ⟨List.pairwise_cons.2 ⟨fun e he => h1.1 e he, h1.2⟩, fun e he => ?_⟩
        rcases List.mem_cons.1 he with rfl | he
        · exact ⟨uni_asc P L ha.1, uni_nil_ne L hP⟩
        · exact hr.2 e he
      · rename_i hv hne
        have hwv : ltW w v = true := by
          cases e : ltW w v with
          | true => rfl
          | false => exact absurd (ltW_tri (by simpa using hv) e) hne
        refine ⟨List.pairwise_cons.2 ⟨fun e he => ?_, List.pairwise_cons.2 h1⟩, fun e he => ?_⟩
        · rcases List.mem_cons.1 he with rfl | he
          · exact hwv
          · exact ltW_trans hwv (h1.1 e he)
        · rcases List.mem_cons.1 he with rfl | he
          · exact ⟨uni_asc P [] List.Pairwise.nil, uni_nil_ne [] hP⟩
          · exact h2 e he
theorem addP_has {E : List Ent} {w : ByteArray} {P : List Int} (u : ByteArray) (x : Int) (h : OkE E) : Has (addP E w P) u x ↔ Has E u x ∨ u = w ∧ x ∈ P := by
  induction E with
  | nil =>
    unfold Has addP
    simp only [List.mem_singleton, Prod.mk.injEq, List.not_mem_nil, false_and, exists_const, false_or]
    constructor
    · rintro ⟨L, ⟨rfl, rfl⟩, hx⟩
      rw [uni_mem] at hx; simp at hx; exact ⟨rfl, hx⟩
    · rintro ⟨rfl, hx⟩
      exact ⟨_, ⟨rfl, rfl⟩, (uni_mem _ _ _).2 (.inr hx)⟩
  | cons a r ih =>
    obtain ⟨v, L⟩ := a
    have hr : OkE r := ⟨(List.pairwise_cons.1 h.1).2, fun e he => h.2 e (List.mem_cons_of_mem _ he)⟩
    have ih := ih hr
    have hc : ∀ (M : List Int) (s : List Ent), Has ((v, M) :: s) u x ↔ u = v ∧ x ∈ M ∨ Has s u x := by
      intro M s
      unfold Has
      constructor
      · rintro ⟨L', hm, hx⟩
        rcases List.mem_cons.1 hm with e | hm
        · injection e with e1 e2; subst e1 e2; exact .inl ⟨rfl, hx⟩
        · exact .inr ⟨L', hm, hx⟩
      · rintro (⟨rfl, hx⟩ | ⟨L', hm, hx⟩)
        · exact ⟨M, by simp, hx⟩
        · exact ⟨L', List.mem_cons_of_mem _ hm, hx⟩
    rw [addP]
    split
    · rw [hc, hc, ih, or_assoc]
    · split
      · rename_i hv; subst hv
        rw [hc, hc, uni_mem]
        constructor
        · rintro (⟨e, hx | hx⟩ | hx)
          · exact .inl (.inl ⟨e, hx⟩)
          · exact .inr ⟨e, hx⟩
          · exact .inl (.inr hx)
        · rintro ((⟨e, hx⟩ | hx) | ⟨e, hx⟩)
          · exact .inl ⟨e, .inl hx⟩
          · exact .inr hx
          · exact .inl ⟨e, .inr hx⟩
      · have : Has ((w, uni [] P) :: (v, L) :: r) u x ↔ u = w ∧ x ∈ P ∨ Has ((v, L) :: r) u x := by
          unfold Has
          constructor
          · rintro ⟨L', hm, hx⟩
            rcases List.mem_cons.1 hm with e | hm
            · injection e with e1 e2; subst e1 e2
              rw [uni_mem] at hx; simp at hx; exact .inl ⟨rfl, hx⟩
            · exact .inr ⟨L', hm, hx⟩
          · rintro (⟨rfl, hx⟩ | ⟨L', hm, hx⟩)
            · exact ⟨_, List.mem_cons_self, (uni_mem _ _ _).2 (.inr hx)⟩
            · exact ⟨L', List.mem_cons_of_mem _ hm, hx⟩
        rw [this, or_comm]
theorem okE_ext : ∀ {E F : List Ent}, OkE E → OkE F → (∀ u x, Has E u x ↔ Has F u x) → E = F
  | [], [], _, _, _ => rfl
  | [], (v, M) :: F, _, hF, h => by
    obtain ⟨_, hne⟩ := hF.2 (v, M) (by simp)
    obtain ⟨x, M', rfl⟩ := List.exists_cons_of_ne_nil hne
    obtain ⟨L, hL, _⟩ := (h v x).2 ⟨_, List.mem_cons_self, List.mem_cons_self⟩
    simp at hL
  | (v, M) :: E, [], hE, _, h => by
    obtain ⟨_, hne⟩ := hE.2 (v, M) (by simp)
    obtain ⟨x, M', rfl⟩ := List.exists_cons_of_ne_nil hne
    obtain ⟨L, hL, _⟩ := (h v x).1 ⟨_, List.mem_cons_self, List.mem_cons_self⟩
    simp at hL
  | (v, L) :: E, (u, M) :: F, hE, hF, h => by
    have pE := List.pairwise_cons.1 hE.1
    have pF := List.pairwise_cons.1 hF.1
    obtain ⟨aL, nL⟩ := hE.2 (v, L) (by simp)
    obtain ⟨aM, nM⟩ := hF.2 (u, M) (by simp)
    have hvu : v = u := by
      obtain ⟨x, L', eL⟩ := List.exists_cons_of_ne_nil nL
      obtain ⟨y, M', eM⟩ := List.exists_cons_of_ne_nil nM
      obtain ⟨L2, hL2, _⟩ := (h v x).1 ⟨L, List.mem_cons_self, by show x ∈ ((v, L) : Ent).2; rw [eL]; exact List.mem_cons_self⟩
      obtain ⟨M2, hM2, _⟩ := (h u y).2 ⟨M, List.mem_cons_self, by show y ∈ ((u, M) : Ent).2; rw [eM]; exact List.mem_cons_self⟩
      rcases List.mem_cons.1 hL2 with e | hL2
      · injection e
      · rcases List.mem_cons.1 hM2 with e | hM2
        · injection e with e1 _; exact e1.symm
        · have h1 := pF.1 _ hL2
          have h2 := pE.1 _ hM2
          have h3 := ltW_asymm h1
          rw [h2] at h3; cases h3
    subst hvu
    have kE : ∀ x, Has E v x → False := fun x ⟨L', hm, _⟩ => by have := pE.1 _ hm; rw [ltW_irrefl] at this; cases this
    have kF : ∀ x, Has F v x → False := fun x ⟨L', hm, _⟩ => by have := pF.1 _ hm; rw [ltW_irrefl] at this; cases this
    have hc : ∀ (w : ByteArray) (x : Int) (K : List Int) (s : List Ent), Has ((v, K) :: s) w x ↔ w = v ∧ x ∈ K ∨ Has s w x := by
      intro w x K s
      unfold Has
      constructor
      · rintro ⟨L', hm, hx⟩
        rcases List.mem_cons.1 hm with e | hm
        · injection e with e1 e2; subst e1 e2; exact .inl ⟨rfl, hx⟩
        · exact .inr ⟨L', hm, hx⟩
      · rintro (⟨rfl, hx⟩ | ⟨L', hm, hx⟩)
        · exact ⟨K, by simp, hx⟩
        · exact ⟨L', List.mem_cons_of_mem _ hm, hx⟩
    have hLM : L = M := asc_ext aL aM (fun x => by
      have := h v x
      rw [hc, hc] at this
      constructor
      · intro hx; rcases this.1 (.inl ⟨rfl, hx⟩) with ⟨_, h⟩ | h; exact h; exact (kF x h).elim
      · intro hx; rcases this.2 (.inl ⟨rfl, hx⟩) with ⟨_, h⟩ | h; exact h; exact (kE x h).elim)
    subst hLM
    rw [okE_ext ⟨pE.2, fun e he => hE.2 e (List.mem_cons_of_mem _ he)⟩ ⟨pF.2, fun e he => hF.2 e (List.mem_cons_of_mem _ he)⟩ (fun w x => ?_)]
    have := h w x
    rw [hc, hc] at this
    constructor
    · intro hx
      rcases this.1 (.inr hx) with ⟨rfl, _⟩ | h
      · exact (kE x hx).elim
      · exact h
    · intro hx
      rcases this.2 (.inr hx) with ⟨rfl, _⟩ | h
      · exact (kF x hx).elim
      · exact h
/-- Where a word stands, or would stand. -/
theorem addP_at (w : ByteArray) (P : List Int) : ∀ (E : List Ent) (k : Nat), k ≤ E.length → (∀ j (h : j < E.length), j < k → ltW E[j].1 w = true) → (∀ h : k < E.length, ltW E[k].1 w = false) →
    (∀ h : k < E.length, E[k].1 = w → addP E w P = E.set k (w, uni E[k].2 P)) ∧ ((k = E.length ∨ ∃ h : k < E.length, E[k].1 ≠ w) → addP E w P = E.take k ++ (w, uni [] P) :: E.drop k)
  | [], k, hk, _, _ => by
    obtain rfl : k = 0 := by simpa using hk
    exact ⟨fun h => absurd h (by simp), fun _ => by simp [addP]⟩
  | (v, L) :: r, 0, _, _, h2 => by
    have h2 := h2 (by simp)
    have h2' : ltW v w = false := h2
    refine ⟨fun h e => ?_, fun h => ?_⟩
    · have e' : v = w := e
      subst e'
      rw [addP, if_neg (by rw [h2']; decide), if_pos rfl]; rfl
    · rcases h with h | ⟨h, hne⟩
      · simp at h
      · have hne' : v ≠ w := hne
        rw [addP, if_neg (by rw [h2']; decide), if_neg hne']; rfl
  | (v, L) :: r, k + 1, hk, h1, h2 => by
    have hv : ltW v w = true := h1 0 (by simp) (by omega)
    have ih := addP_at w P r k (by simpa using hk) (fun j h hj => h1 (j + 1) (by simpa using h) (by omega)) (fun h => h2 (by simpa using h))
    refine ⟨fun h e => ?_, fun h => ?_⟩
    · rw [addP, if_pos hv, ih.1 (by simpa using h) e]; rfl
    · rw [addP, if_pos hv, ih.2 (by
        rcases h with h | ⟨h, hne⟩
        · exact .inl (by simpa using h)
        · exact .inr ⟨by simpa using h, hne⟩)]; rfl
end Go.Proofs.YtckmkjkckadfjaaDoor

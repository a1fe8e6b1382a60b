/- Reading the text of pages, as plain functions. -/
import Derived.Test.YtckmkjkckadfjaaDoorPagPlain
import Derived.Lib.Split
import Derived.Lib.IndexLaws
import Derived.Lib.AtoiTie
namespace Go.Proofs.YtckmkjkckadfjaaDoor
set_option linter.unusedVariables false

/-! ### The parts of a text -/
theorem index_sep {x : Bs} (t : Bs) (hx : ∀ c ∈ x, c ≠ 44) : Lib.index (x ++ sepB ++ t) sepB = x.length := by
  refine Lib.index_first (i := x.length) (by simp) ?_ (fun j hj => ?_)
  · unfold Lib.occAt
    rw [List.append_assoc, List.drop_left]
    simp [sepB, List.isPrefixOf]
  · cases h : Lib.occAt (x ++ sepB ++ t) sepB j with
    | false => rfl
    | true =>
      have h2 := Lib.occAt_head (c := 44) (t := [32]) rfl h
      rw [List.append_assoc, List.getElem?_append_left hj, List.getElem?_eq_getElem hj] at h2
      exact absurd (Option.some.inj h2) (hx _ (List.getElem_mem _))
theorem index_none44 {x : Bs} (hx : ∀ c ∈ x, c ≠ 44) : Lib.index x sepB = -1 := by
  refine Lib.index_none (fun j hj => ?_)
  cases h : Lib.occAt x sepB j with
  | false => rfl
  | true =>
    have h2 := Lib.occAt_head (c := 44) (t := [32]) rfl h
    by_cases hl : j < x.length
    · rw [List.getElem?_eq_getElem hl] at h2
      exact absurd (Option.some.inj h2) (hx _ (List.getElem_mem _))
    · rw [List.getElem?_eq_none (by omega)] at h2; cases h2
theorem split_jn : ∀ (P : List Bs) (x : Bs) (f : Nat), (∀ y ∈ x :: P, ∀ c ∈ y, c ≠ 44) → P.length ≤ f → Lib.splitK sepB 0 f (jn (x :: P)) = x :: P
  | [], x, f, h, _ => by
    have h0 := index_none44 (h x (by simp))
    have e : jn [x] = x := by simp [jn]
    rw [e]
    cases f with
    | zero => rfl
    | succ f => rw [Lib.splitK, h0]; rfl
  | y :: P, x, 0, _, hf => by simp at hf
  | y :: P, x, f + 1, h, hf => by
    have ih := split_jn P y f (fun z hz => h z (List.mem_cons_of_mem _ hz)) (by simpa using hf)
    have e : jn (x :: y :: P) = x ++ sepB ++ jn (y :: P) := by simp [jn, sepB]
    have h0 := index_sep (jn (y :: P)) (h x (by simp))
    rw [e, Lib.splitK, h0]
    have hm : (((x.length : Nat) : Int) == -1) = false := by rw [beq_eq_false_iff_ne]; omega
    rw [hm]
    have hd : List.drop (x.length + sepB.length) (x ++ sepB ++ jn (y :: P)) = jn (y :: P) := by
      rw [← List.length_append, List.drop_left]
    have ht : List.take x.length (x ++ sepB ++ jn (y :: P)) = x := by
      rw [List.append_assoc, List.take_left]
    have hz : ((x.length : Nat) : Int).toNat = x.length := by omega
    rw [hz, Nat.add_zero, ht, hd, ih]
    rfl

/-! ### Numbers -/
theorem decDigits_bytes (n : Nat) : ∀ c ∈ Lib.decDigits n, 48 ≤ c.toNat ∧ c.toNat ≤ 57 := by
  induction n using Nat.strongRecOn with
  | ind n ih =>
    intro c hc
    rw [Lib.decDigits] at hc
    split at hc
    · rename_i h
      rw [List.mem_singleton] at hc; subst hc
      simp; omega
    · rename_i h
      rcases List.mem_append.1 hc with hc | hc
      · exact ih (n / 10) (by omega) c hc
      · rw [List.mem_singleton] at hc; subst hc
        simp; omega
theorem dg_ne44 (n : Int) : ∀ c ∈ dg n, c ≠ 44 ∧ c ≠ 45 := by
  intro c hc
  have h := decDigits_bytes n.toNat c hc
  constructor
  · rintro rfl; simp at h
  · rintro rfl; simp at h
theorem decFrom_snoc (b : UInt8) : ∀ (l : Bs) (acc : Nat), Lib.decFrom acc (l ++ [b]) = (Lib.decFrom acc l).bind fun m => (Lib.digitVal b).map fun d => m * 10 + d
  | [], acc => by
    simp only [List.nil_append, Lib.decFrom, Option.bind_some]
    cases Lib.digitVal b <;> rfl
  | c :: l, acc => by
    simp only [List.cons_append, Lib.decFrom]
    cases Lib.digitVal c with
    | none => rfl
    | some d => exact decFrom_snoc b l _
theorem digitVal_of {d : Nat} (h : d < 10) : Lib.digitVal (UInt8.ofNat (48 + d)) = some d := by
  unfold Lib.digitVal
  have e : (UInt8.ofNat (48 + d)).toNat = 48 + d := by simp; omega
  rw [e, if_pos ⟨by omega, by omega⟩]
  simp
theorem decFrom_digits (n : Nat) : Lib.decFrom 0 (Lib.decDigits n) = some n := by
  induction n using Nat.strongRecOn with
  | ind n ih =>
    rw [Lib.decDigits]
    split
    · rename_i h
      simp only [Lib.decFrom]
      rw [digitVal_of h]
      simp
    · rename_i h
      rw [decFrom_snoc, ih (n / 10) (by omega), Option.bind_some, digitVal_of (Nat.mod_lt _ (by omega))]
      simp; omega
theorem digits_len : ∀ (k n : Nat), n < 10 ^ (k + 1) → (Lib.decDigits n).length ≤ k + 1
  | 0, n, h => by
    rw [Lib.decDigits, dif_pos (by simpa using h)]; simp
  | k + 1, n, h => by
    rw [Lib.decDigits]
    split
    · simp
    · have := digits_len k (n / 10) (by rw [Nat.pow_succ] at h; omega)
      simp; omega
theorem digits_ne (n : Nat) : Lib.decDigits n ≠ [] := by
  rw [Lib.decDigits]; split <;> simp
theorem atoi_digits (n : Nat) : Lib.atoi (Lib.decDigits n) = some (n : Int) := by
  have hb := decDigits_bytes n
  have hd := decFrom_digits n
  have hn := digits_ne n
  generalize Lib.decDigits n = l at *
  cases l with
  | nil => exact absurd rfl hn
  | cons c r =>
    have hc := hb c (by simp)
    have h1 : (c == 45) = false := by rw [beq_eq_false_iff_ne]; rintro rfl; simp at hc
    have h2 : (c == 43) = false := by rw [beq_eq_false_iff_ne]; rintro rfl; simp at hc
    rw [Lib.atoi, h1, h2]
    simp [Lib.decNat, hd]
def pnum (l : Bs) : Option Int := match Lib.atoiAll l with
  | .ok v => if 1 ≤ v ∧ v ≤ 3999 then some v else none
  | _ => none
theorem pnum_dg {n : Int} (h1 : 1 ≤ n) (h2 : n ≤ 3999) : pnum (dg n) = some n := by
  have hl : (dg n).length ≤ 18 := by
    have := digits_len 3 n.toNat (by omega)
    unfold dg; omega
  unfold pnum
  rw [Lib.atoiAll_short _ hl]
  unfold dg
  rw [atoi_digits]
  have e : ((n.toNat : Nat) : Int) = n := by omega
  simp only [Lib.NumEnd.ofOption, e]
  rw [if_pos ⟨h1, h2⟩]

/-! ### One part after another -/
def rng (a b : Int) : List Int := (List.range (b - a + 1).toNat).map fun (i : Nat) => a + (i : Int)
def stepP (out : List Int) (p : Bs) : Option (List Int) :=
  match pnum (Lib.cut p [45]).1 with
  | none => none
  | some a => match (if (Lib.cut p [45]).2.2 = true then pnum (Lib.cut p [45]).2.1 else some a) with
    | none => none
    | some b => if 40 ≤ b - a ∨ 40 < out.length then none else some (out ++ rng a b)
def parF : List Bs → List Int → Option (List Int)
  | [], out => some out
  | p :: r, out => match stepP out p with
    | none => none
    | some o => parF r o
theorem cut_none {x : Bs} (hx : ∀ c ∈ x, c ≠ 45) : Lib.cut x [45] = (x, [], false) := by
  have h0 : Lib.index x [45] = -1 := by
    refine Lib.index_none (fun j hj => ?_)
    cases h : Lib.occAt x [45] j with
    | false => rfl
    | true =>
      have h2 := Lib.occAt_head (c := 45) (t := []) rfl h
      by_cases hl : j < x.length
      · rw [List.getElem?_eq_getElem hl] at h2
        exact absurd (Option.some.inj h2) (hx _ (List.getElem_mem _))
      · rw [List.getElem?_eq_none (by omega)] at h2; cases h2
  unfold Lib.cut
  rw [h0, if_neg (by omega)]
theorem cut_at {x : Bs} (t : Bs) (hx : ∀ c ∈ x, c ≠ 45) : Lib.cut (x ++ [45] ++ t) [45] = (x, t, true) := by
  have h0 : Lib.index (x ++ [45] ++ t) [45] = x.length := by
    refine Lib.index_first (i := x.length) (by simp) ?_ (fun j hj => ?_)
    · unfold Lib.occAt
      rw [List.append_assoc, List.drop_left]
      simp [List.isPrefixOf]
    · cases h : Lib.occAt (x ++ [45] ++ t) [45] j with
      | false => rfl
      | true =>
        have h2 := Lib.occAt_head (c := 45) (t := []) rfl h
        rw [List.append_assoc, List.getElem?_append_left hj, List.getElem?_eq_getElem hj] at h2
        exact absurd (Option.some.inj h2) (hx _ (List.getElem_mem _))
  unfold Lib.cut
  rw [h0, if_pos (by omega)]
  have hz : ((x.length : Nat) : Int).toNat = x.length := by omega
  rw [hz, ← List.length_append, List.drop_left, List.append_assoc, List.take_left]
theorem re_run (L : List Int) : ∀ (d i : Nat), L.length - i = d → ∀ j, i ≤ j → j ≤ re L i → pe L j = pe L i + ((j - i : Nat) : Int)
  | 0, i, h, j, h1, h2 => by
    have hn : ¬ nx L i := fun h3 => by have h4 : i + 1 < L.length := h3.1; omega
    rw [re_stop hn] at h2
    have : j = i := by omega
    subst this; simp
  | d + 1, i, h, j, h1, h2 => by
    by_cases hn : nx L i
    · by_cases hj : j = i
      · subst hj; simp
      · rw [re_step hn] at h2
        have := re_run L d (i + 1) (by omega) j (by omega) h2
        rw [this, hn.2]
        omega
    · rw [re_stop hn] at h2
      have : j = i := by omega
      subst this; simp
theorem take_rng {L : List Int} {i j : Nat} (hij : i ≤ j) (hj : j < L.length) (h : ∀ k, i ≤ k → k ≤ j → pe L k = pe L i + ((k - i : Nat) : Int)) : L.take (j + 1) = L.take i ++ rng (pe L i) (pe L j) := by
  have hb := h j hij (Nat.le_refl _)
  have hr : rng (pe L i) (pe L j) = (List.range (j - i + 1)).map fun (k : Nat) => pe L i + (k : Int) := by
    unfold rng
    rw [hb]
    congr 2
    omega
  rw [hr]
  apply List.ext_getElem?
  intro k
  by_cases hk : k < i
  · rw [List.getElem?_append_left (by rw [List.length_take]; omega), List.getElem?_take, List.getElem?_take, if_pos (by omega), if_pos hk]
  · rw [List.getElem?_append_right (by rw [List.length_take]; omega), List.length_take, Nat.min_eq_left (by omega), List.getElem?_take]
    by_cases hk2 : k ≤ j
    · have hv := h k (by omega) hk2
      have hp : L[k]? = some (pe L k) := by
        unfold pe; rw [List.getD_eq_getElem?_getD, List.getElem?_eq_getElem (by omega)]; rfl
      rw [if_pos (by omega), hp, hv, List.getElem?_map, List.getElem?_range (by omega)]
      rfl
    · rw [if_neg (by omega), List.getElem?_eq_none (by simp; omega)]
/-- The text of pages, read part by part. -/
theorem parF_pts {L : List Int} (hok : okPg L = true) : ∀ (d i : Nat), L.length - i ≤ d → i ≤ L.length → parF (pts L i) (L.take i) = some L
  | 0, i, h, hi => by
    have : i = L.length := by omega
    subst this
    rw [pts_end (Nat.le_refl _), List.take_length]; rfl
  | d + 1, i, h, hi => by
    obtain ⟨hl40, hat⟩ := okPg_at hok
    by_cases hil : i < L.length
    · have hr1 := le_re L i
      have hr2 := re_lt hil
      have hri := re_run L _ i rfl
      obtain ⟨a1, a2, _⟩ := hat i hil
      obtain ⟨b1, b2, _⟩ := hat (re L i) hr2
      have hlen : (L.take i).length ≤ 40 := by rw [List.length_take]; omega
      by_cases hr : i + 2 ≤ re L i
      · have hb := hri (re L i) hr1 (Nat.le_refl _)
        have hs : stepP (L.take i) (dg (pe L i) ++ [45] ++ dg (pe L (re L i))) = some (L.take (re L i + 1)) := by
          unfold stepP
          rw [cut_at _ (fun c hc => (dg_ne44 _ c hc).2), pnum_dg a1 a2]
          simp only [if_true]
          rw [pnum_dg b1 b2]
          simp only
          rw [if_neg (by omega), take_rng hr1 hr2 (fun k h1 h2 => hri k h1 h2)]
        rw [pts_run hil hr, parF, hs]
        exact parF_pts hok d (re L i + 1) (by omega) (by omega)
      · have hs : stepP (L.take i) (dg (pe L i)) = some (L.take (i + 1)) := by
          unfold stepP
          rw [cut_none (fun c hc => (dg_ne44 _ c hc).2), pnum_dg a1 a2]
          simp only [Bool.false_eq_true, if_false]
          rw [if_neg (by omega), take_rng (Nat.le_refl i) hil (fun k h1 h2 => by
            have : k = i := by omega
            subst this; simp)]
        rw [pts_one hil hr, parF, hs]
        exact parF_pts hok d (i + 1) (by omega) (by omega)
    · have : i = L.length := by omega
      subst this
      rw [pts_end (Nat.le_refl _), List.take_length]; rfl

/-! ### The whole text -/
theorem pts_bytes (L : List Int) : ∀ (d i : Nat), L.length - i ≤ d → ∀ y ∈ pts L i, ∀ c ∈ y, c ≠ 44
  | 0, i, h, y, hy => by rw [pts_end (by omega)] at hy; simp at hy
  | d + 1, i, h, y, hy => by
    by_cases hil : i < L.length
    · have hr1 := le_re L i
      by_cases hr : i + 2 ≤ re L i
      · rw [pts_run hil hr] at hy
        rcases List.mem_cons.1 hy with rfl | hy
        · intro c hc
          rcases List.mem_append.1 hc with hc | hc
          · rcases List.mem_append.1 hc with hc | hc
            · exact (dg_ne44 _ c hc).1
            · rw [List.mem_singleton] at hc; subst hc; decide
          · exact (dg_ne44 _ c hc).1
        · exact pts_bytes L d (re L i + 1) (by omega) y hy
      · rw [pts_one hil hr] at hy
        rcases List.mem_cons.1 hy with rfl | hy
        · exact fun c hc => (dg_ne44 _ c hc).1
        · exact pts_bytes L d (i + 1) (by omega) y hy
    · rw [pts_end (by omega)] at hy; simp at hy
theorem jn_len (P : List Bs) : P.length ≤ (P.flatMap (fun y => sepB ++ y)).length := by
  induction P with
  | nil => simp
  | cons x P ih => rw [List.flatMap_cons, List.length_append, List.length_append, List.length_cons]; have h2 : sepB.length = 2 := rfl; omega
theorem pts_cons {L : List Int} (h : L ≠ []) : ∃ x P, pts L 0 = x :: P := by
  have hl : 0 < L.length := List.length_pos_iff.2 h
  by_cases hr : 0 + 2 ≤ re L 0
  · exact ⟨_, _, pts_run hl hr⟩
  · exact ⟨_, _, pts_one hl hr⟩
theorem split_txt {L : List Int} (h : L ≠ []) (f : Nat) (hf : (txt L).length ≤ f) : Lib.splitK sepB 0 f (txt L) = pts L 0 := by
  obtain ⟨x, P, e⟩ := pts_cons h
  have hb := pts_bytes L L.length 0 (by omega)
  unfold txt at hf ⊢
  rw [e] at hb hf ⊢
  refine split_jn P x f hb ?_
  have := jn_len P
  simp only [jn, List.length_append] at hf
  omega
theorem txt_nonempty {L : List Int} (h : L ≠ []) : txt L ≠ [] := by
  have hl : 0 < L.length := List.length_pos_iff.2 h
  rw [txt_chunk hl]
  unfold chunk
  intro e
  have e1 := (List.append_eq_nil_iff.1 (List.append_eq_nil_iff.1 e).1).1
  unfold dg at e1
  exact digits_ne _ e1
/-- What the program's ParsePages makes of a text. -/
def impI (s : Bs) : Option (List Int) := match parF (Lib.splitK sepB 0 s.length s) [] with
  | none => none
  | some out => if s = [] ∨ (fmtP out).data.toList ≠ s then none else some out
theorem impI_txt {L : List Int} (h : okPg L = true) (hn : L ≠ []) : impI (txt L) = some L := by
  have h1 := parF_pts h L.length 0 (by omega) (by omega)
  rw [List.take_zero] at h1
  unfold impI
  rw [split_txt hn _ (Nat.le_refl _), h1]
  have h2 : (fmtP L).data.toList = txt L := by unfold fmtP; rw [if_pos h]
  simp only
  rw [if_neg (by rw [h2]; simp [txt_nonempty hn])]
theorem impI_some {s : Bs} {L : List Int} (h : impI s = some L) : okPg L = true ∧ L ≠ [] ∧ txt L = s := by
  unfold impI at h
  split at h
  · cases h
  · rename_i out _
    split at h
    · cases h
    · rename_i hc
      injection h with h; subst h
      have h1 : s ≠ [] := fun e => hc (.inl e)
      have h2 : (fmtP out).data.toList = s := by
        by_cases e : (fmtP out).data.toList = s
        · exact e
        · exact absurd (.inr e) hc
      unfold fmtP at h2
      split at h2
      · rename_i hok
        refine ⟨hok, ?_, by simpa using h2⟩
        rintro rfl
        apply h1
        rw [← h2, txt_nil rfl]
      · exact absurd h2.symm (by simpa using h1)
/-- Whatever reads every text of pages, and tests what it read by writing it again, gives the same. -/
theorem impI_unique {s : Bs} {R : List Int} (hR : ∀ L, okPg L = true → L ≠ [] → txt L = s → R = L) : impI s = if s ≠ [] ∧ okPg R = true ∧ txt R = s then some R else none := by
  cases e : impI s with
  | some L =>
    obtain ⟨h1, h2, h3⟩ := impI_some e
    have := hR L h1 h2 h3
    subst this
    rw [if_pos ⟨by rw [← h3]; exact txt_nonempty h2, h1, h3⟩]
  | none =>
    rw [if_neg]
    rintro ⟨h1, h2, h3⟩
    have hn : R ≠ [] := by
      rintro rfl
      apply h1
      rw [← h3, txt_nil rfl]
    have := impI_txt h2 hn
    rw [h3, e] at this
    cases this
end Go.Proofs.YtckmkjkckadfjaaDoor

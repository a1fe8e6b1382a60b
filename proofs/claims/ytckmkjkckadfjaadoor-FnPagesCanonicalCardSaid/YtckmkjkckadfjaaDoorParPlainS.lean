/- The reference's reading of pages, as plain functions. -/
import Derived.Test.YtckmkjkckadfjaaDoorParPlain
namespace Go.Proofs.YtckmkjkckadfjaaDoor
set_option linter.unusedVariables false

/-! ### Numbers -/
def addD (n : Int) (c : UInt8) : Int := 10 * n + (c.toNat : Int) - 48
def pI (s : Bs) : Int := if s.head? = some 45 then -1 * ((s.drop 1).take 9).foldl addD 0 else 1 * (s.take 9).foldl addD 0
theorem fold_dec : ∀ (l : Bs) (acc m : Nat), Lib.decFrom acc l = some m → l.foldl addD (acc : Int) = (m : Int)
  | [], acc, m, h => by
    simp only [Lib.decFrom, Option.some.injEq] at h
    subst h; rfl
  | c :: l, acc, m, h => by
    simp only [Lib.decFrom] at h
    unfold Lib.digitVal at h
    split at h
    · rename_i d hd
      split at hd
      · rename_i hc
        injection hd with hd
        rw [List.foldl_cons]
        have e : addD (acc : Int) c = ((acc * 10 + d : Nat) : Int) := by unfold addD; omega
        rw [e]
        exact fold_dec l _ m h
      · cases hd
    · cases h
theorem pI_dg {n : Int} (h1 : 1 ≤ n) (h2 : n ≤ 3999) : pI (dg n) = n := by
  have hl : (dg n).length ≤ 9 := by
    have := digits_len 3 n.toNat (by omega)
    unfold dg; omega
  have hh : ¬ (dg n).head? = some 45 := by
    intro e
    have := List.mem_of_head? e
    exact (dg_ne44 n _ this).2 rfl
  unfold pI
  rw [if_neg hh, List.take_of_length_le hl]
  have := fold_dec _ 0 _ (decFrom_digits n.toNat)
  unfold dg
  have e : ((0 : Nat) : Int) = 0 := rfl
  rw [e] at this
  rw [this]
  omega

/-! ### One part after another -/
def refS (i : Nat) (t : Bs) : Bs := if 0 < i ∧ 0 < t.length then t.drop 1 else t
def refOne (out : List Int) (t : Bs) : List Int :=
  let r := Lib.splitK [45] 0 1 t
  let a := pI (r.getD 0 [])
  let b := if r.length = 2 then pI (r.getD 1 []) else a
  out ++ (if 0 ≤ a then (rng a b).take (41 - out.length) else [])
def refF : List Bs → Nat → List Int → List Int
  | [], _, out => out
  | t :: r, i, out => refF r (i + 1) (refOne out (refS i t))
def specR (s : Bs) : List Int := refF (Lib.splitK [44] 0 40 s) 0 []

theorem index_one {x : Bs} (b : UInt8) (t : Bs) (hx : ∀ c ∈ x, c ≠ b) : Lib.index (x ++ b :: t) [b] = x.length := by
  refine Lib.index_first (i := x.length) (by simp) ?_ (fun j hj => ?_)
  · unfold Lib.occAt
    rw [List.drop_left]
    simp [List.isPrefixOf]
  · cases h : Lib.occAt (x ++ b :: t) [b] j with
    | false => rfl
    | true =>
      have h2 := Lib.occAt_head (c := b) (t := []) rfl h
      rw [List.getElem?_append_left hj, List.getElem?_eq_getElem hj] at h2
      exact absurd (Option.some.inj h2) (hx _ (List.getElem_mem _))
theorem index_no {x : Bs} (b : UInt8) (hx : ∀ c ∈ x, c ≠ b) : Lib.index x [b] = -1 := by
  refine Lib.index_none (fun j hj => ?_)
  cases h : Lib.occAt x [b] j with
  | false => rfl
  | true =>
    have h2 := Lib.occAt_head (c := b) (t := []) rfl h
    by_cases hl : j < x.length
    · rw [List.getElem?_eq_getElem hl] at h2
      exact absurd (Option.some.inj h2) (hx _ (List.getElem_mem _))
    · rw [List.getElem?_eq_none (by omega)] at h2; cases h2
theorem splitK_no {x : Bs} (b : UInt8) (f : Nat) (hx : ∀ c ∈ x, c ≠ b) : Lib.splitK [b] 0 f x = [x] := by
  cases f with
  | zero => rfl
  | succ f => rw [Lib.splitK, index_no b hx]; rfl
theorem splitK_one {x : Bs} (b : UInt8) (f : Nat) (t : Bs) (hx : ∀ c ∈ x, c ≠ b) : Lib.splitK [b] 0 (f + 1) (x ++ b :: t) = x :: Lib.splitK [b] 0 f t := by
  rw [Lib.splitK, index_one b t hx]
  have hm : (((x.length : Nat) : Int) == -1) = false := by rw [beq_eq_false_iff_ne]; omega
  have hz : ((x.length : Nat) : Int).toNat = x.length := by omega
  rw [hm, hz, Nat.add_zero, List.take_left]
  have hd : List.drop (x.length + [b].length) (x ++ b :: t) = t := by
    have e : x ++ b :: t = (x ++ [b]) ++ t := by simp
    rw [e, ← List.length_append, List.drop_left]
  rw [hd]
  rfl
theorem split_ref : ∀ (P : List Bs) (x : Bs) (f : Nat), (∀ y ∈ x :: P, ∀ c ∈ y, c ≠ 44) → P.length ≤ f → Lib.splitK [44] 0 f (jn (x :: P)) = x :: P.map (fun y => 32 :: y)
  | [], x, f, h, _ => by
    have e : jn [x] = x := by simp [jn]
    rw [e, splitK_no 44 f (h x (by simp))]; rfl
  | y :: P, x, 0, _, hf => by simp at hf
  | y :: P, x, f + 1, h, hf => by
    have ih := split_ref P (32 :: y) f (fun z hz c hc => by
      rcases List.mem_cons.1 hz with rfl | hz
      · rcases List.mem_cons.1 hc with rfl | hc
        · decide
        · exact h y (by simp) c hc
      · exact h z (by simp [hz]) c hc) (by simpa using hf)
    have e : jn (x :: y :: P) = x ++ 44 :: jn ((32 :: y) :: P) := by simp [jn, sepB]
    rw [e, splitK_one 44 f _ (h x (by simp)), ih]
    rfl
theorem refF_map : ∀ (P : List Bs) (i : Nat) (out : List Int), 0 < i → refF (P.map fun y => 32 :: y) i out = P.foldl refOne out
  | [], _, _, _ => rfl
  | y :: P, i, out, h => by
    rw [List.map_cons, refF, List.foldl_cons]
    have e : refS i (32 :: y) = y := by unfold refS; rw [if_pos ⟨h, by simp⟩]; rfl
    rw [e]
    exact refF_map P (i + 1) _ (by omega)
theorem rng_len (a b : Int) : (rng a b).length = (b - a + 1).toNat := by simp [rng]
theorem fold_pts {L : List Int} (hok : okPg L = true) : ∀ (d i : Nat), L.length - i ≤ d → i ≤ L.length → (pts L i).foldl refOne (L.take i) = L
  | 0, i, h, hi => by
    have : i = L.length := by omega
    subst this
    rw [pts_end (Nat.le_refl _), List.take_length]; rfl
  | d + 1, i, h, hi => by
    obtain ⟨hl40, hat⟩ := okPg_at hok
    by_cases hil : i < L.length
    · have hr1 := le_re L i
      have hr2 := re_lt hil
      have hri := re_run L _ i rfl
      obtain ⟨a1, a2, _⟩ := hat i hil
      obtain ⟨b1, b2, _⟩ := hat (re L i) hr2
      have hlen : (L.take i).length = i := by rw [List.length_take]; omega
      by_cases hr : i + 2 ≤ re L i
      · have hb := hri (re L i) hr1 (Nat.le_refl _)
        have hs : refOne (L.take i) (dg (pe L i) ++ [45] ++ dg (pe L (re L i))) = L.take (re L i + 1) := by
          unfold refOne
          have e : dg (pe L i) ++ [45] ++ dg (pe L (re L i)) = dg (pe L i) ++ 45 :: dg (pe L (re L i)) := by simp
          rw [e, splitK_one 45 0 _ (fun c hc => (dg_ne44 _ c hc).2)]
          simp only [Lib.splitK, List.getD_cons_zero, List.getD_cons_succ, List.length_cons, List.length_nil]
          rw [if_pos trivial, pI_dg a1 a2, pI_dg b1 b2, if_pos (show (0 : Int) ≤ pe L i by omega), List.take_of_length_le (l := rng (pe L i) (pe L (re L i))) (by rw [rng_len, hlen]; omega), take_rng hr1 hr2 (fun k h1 h2 => hri k h1 h2)]
        rw [pts_run hil hr, List.foldl_cons, hs]
        exact fold_pts hok d (re L i + 1) (by omega) (by omega)
      · have hs : refOne (L.take i) (dg (pe L i)) = L.take (i + 1) := by
          unfold refOne
          rw [splitK_no 45 1 (fun c hc => (dg_ne44 _ c hc).2)]
          simp only [List.getD_cons_zero, List.length_cons, List.length_nil]
          rw [if_neg (show ¬ (0 + 1 = 2) by omega), pI_dg a1 a2, if_pos (show (0 : Int) ≤ pe L i by omega), List.take_of_length_le (l := rng (pe L i) (pe L i)) (by rw [rng_len, hlen]; omega), take_rng (Nat.le_refl i) hil (fun k h1 h2 => by
            have : k = i := by omega
            subst this; simp)]
        rw [pts_one hil hr, List.foldl_cons, hs]
        exact fold_pts hok d (i + 1) (by omega) (by omega)
    · have : i = L.length := by omega
      subst this
      rw [pts_end (Nat.le_refl _), List.take_length]; rfl
theorem pts_count {L : List Int} : ∀ (d i : Nat), L.length - i ≤ d → (pts L i).length ≤ L.length - i
  | 0, i, h => by rw [pts_end (by omega)]; simp
  | d + 1, i, h => by
    by_cases hil : i < L.length
    · have hr1 := le_re L i
      by_cases hr : i + 2 ≤ re L i
      · have := pts_count (L := L) d (re L i + 1) (by omega)
        rw [pts_run hil hr, List.length_cons]
        have := re_lt hil
        omega
      · have := pts_count (L := L) d (i + 1) (by omega)
        rw [pts_one hil hr, List.length_cons]
        omega
    · rw [pts_end (by omega)]; simp
/-- The reference reads every text of pages. -/
theorem specR_txt {L : List Int} (h : okPg L = true) (hn : L ≠ []) : specR (txt L) = L := by
  obtain ⟨x, P, e⟩ := pts_cons hn
  have hb := pts_bytes L L.length 0 (by omega)
  have hc := pts_count (L := L) L.length 0 (by omega)
  have h40 := (okPg_at h).1
  have hf := fold_pts h L.length 0 (by omega) (by omega)
  rw [List.take_zero] at hf
  unfold specR txt
  rw [e] at hb hc hf ⊢
  rw [split_ref P x 40 hb (by simp only [List.length_cons] at hc; omega), refF]
  have e0 : refS 0 x = x := by unfold refS; rw [if_neg (by omega)]
  rw [e0, refF_map P 1 _ (by omega)]
  exact hf
/-- Both answers agree. -/
theorem spec_impI (s : Bs) : impI s = if s ≠ [] ∧ okPg (specR s) = true ∧ txt (specR s) = s then some (specR s) else none :=
  impI_unique (fun L h1 h2 h3 => by rw [← h3, specR_txt h1 h2])
end Go.Proofs.YtckmkjkckadfjaaDoor

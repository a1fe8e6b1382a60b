/- Formulas as plain data: a forest of kids. -/
import Derived.Test.YtdloeiaaokhniaaBase
namespace Go.Proofs.Ytdloeiaaokhniaa

/-- The kids of a formula, in order: kind, the three lengths of the size, the kids; then the other ones. -/
inductive FL
  | nil
  | cons (k a b c : Int) (kids rest : FL)
namespace FL
def len : FL → Nat
  | nil => 0
  | cons _ _ _ _ _ r => r.len + 1
def sz : FL → Nat
  | nil => 0
  | cons _ _ _ _ k r => 1 + k.sz + r.sz
def drop : Nat → FL → FL
  | 0, f => f
  | _ + 1, nil => nil
  | n + 1, cons _ _ _ _ _ r => drop n r
def app : FL → FL → FL
  | nil, g => g
  | cons k a b c f r, g => cons k a b c f (app r g)
theorem app_nil : ∀ f : FL, f.app nil = f
  | nil => rfl
  | cons k a b c f r => by rw [app, app_nil r]
theorem app_assoc : ∀ f g h : FL, (f.app g).app h = f.app (g.app h)
  | nil, g, h => rfl
  | cons k a b c f r, g, h => by rw [app, app, app, app_assoc r]
theorem len_app : ∀ f g : FL, (f.app g).len = f.len + g.len
  | nil, g => by simp [app, len]
  | cons k a b c f r, g => by rw [app, len, len, len_app r]; omega
theorem sz_app : ∀ f g : FL, (f.app g).sz = f.sz + g.sz
  | nil, g => by simp [app, sz]
  | cons k a b c f r, g => by rw [app, sz, sz, sz_app r]; omega
theorem len_drop : ∀ (n : Nat) (f : FL), (drop n f).len = f.len - n
  | 0, f => rfl
  | n + 1, nil => by simp [drop, len]
  | n + 1, cons k a b c f r => by rw [drop, len_drop n r, len]; omega
theorem sz_drop : ∀ (n : Nat) (f : FL), (drop n f).sz ≤ f.sz
  | 0, f => Nat.le_refl _
  | n + 1, nil => Nat.le_refl _
  | n + 1, cons k a b c f r => by rw [drop, sz]; have := sz_drop n r; omega
theorem len_le_sz : ∀ f : FL, f.len ≤ f.sz
  | nil => Nat.le_refl _
  | cons k a b c f r => by rw [len, sz]; have := len_le_sz r; omega
/-- The kid at a place that is there. -/
theorem drop_at : ∀ (n : Nat) (f : FL), n < f.len → ∃ k a b c g r, drop n f = cons k a b c g r ∧ drop (n + 1) f = r
  | 0, nil, h => by simp [len] at h
  | 0, cons k a b c g r, _ => ⟨k, a, b, c, g, r, rfl, rfl⟩
  | n + 1, nil, h => by simp [len] at h
  | n + 1, cons k a b c g r, h => by
    rw [len] at h
    obtain ⟨k', a', b', c', g', r', h1, h2⟩ := drop_at n r (by omega)
    exact ⟨k', a', b', c', g', r', h1, h2⟩
theorem drop_end (f : FL) : drop f.len f = nil := by
  have h := len_drop f.len f
  rw [Nat.sub_self] at h
  cases e : drop f.len f with
  | nil => rfl
  | cons => rw [e] at h; simp [len] at h
theorem sz_kid {n : Nat} {f : FL} {k a b c : Int} {g r : FL} (h : drop n f = cons k a b c g r) : g.sz < f.sz := by
  have := sz_drop n f
  rw [h, sz] at this; omega
end FL
open FL

/-- A formula without its kids: valid with so many kids and levels. -/
def okNode (k a b c : Int) (n d : Nat) : Bool :=
  if k = 1 then decide (n = 0) && decide (0 ≤ a ∧ a ≤ 100) && decide (0 ≤ b ∧ b ≤ 100) && decide (0 ≤ c ∧ c ≤ 100)
  else ((decide (k = 2) && decide (n ≤ 6)) || (decide (k = 3 ∨ k = 4 ∨ k = 5) && decide (n = 2)) || (decide (k = 6) && decide (n = 1))) && decide (a = 0 ∧ b = 0 ∧ c = 0) && !(decide (0 < n) && decide (d = 0))
def allV : Nat → FL → Bool
  | _, nil => true
  | d, cons k a b c g r => okNode k a b c g.len d && allV (d - 1) g && allV d r
/-- A formula is valid with d levels of kids. -/
def okFm (k a b c : Int) (g : FL) (d : Nat) : Bool := okNode k a b c g.len d && allV (d - 1) g
def sizeFm (g : FL) : Nat := 1 + g.sz

def bxW : List (Int × Int × Int) → Int
  | [] => 0
  | p :: r => p.1 + bxW r
def bxH : List (Int × Int × Int) → Int
  | [] => 0
  | p :: r => max p.2.1 (bxH r)
def bxD : List (Int × Int × Int) → Int
  | [] => 0
  | p :: r => max p.2.2 (bxD r)
def box0 (L : List (Int × Int × Int)) (i : Nat) : Int × Int × Int := L.getD i (0, 0, 0)
/-- The box of a formula whose kids have these boxes. -/
def layN (k a b c : Int) (L : List (Int × Int × Int)) : Int × Int × Int :=
  if k = 1 then (a, b, c)
  else if k = 2 then (bxW L, bxH L, bxD L)
  else
    let x := box0 L 0
    let y := box0 L 1
    if k = 6 then (x.1 + 3, x.2.1 + 2, x.2.2)
    else if k = 4 then
      let u := max 3 (x.2.1 - 3 + y.2.2)
      (x.1 + y.1, max x.2.1 (u + y.2.1), max x.2.2 (y.2.2 - u))
    else if k = 5 then
      let v := max 3 (x.2.2 + y.2.1 - 3)
      (x.1 + y.1, max x.2.1 (y.2.1 - v), max x.2.2 (v + y.2.2))
    else (max x.1 y.1, 5 + x.2.1 + x.2.2, max 0 (1 + y.2.1 + y.2.2 - 3))
def layL : FL → List (Int × Int × Int)
  | nil => []
  | cons k a b c g r => layN k a b c (layL g) :: layL r
def layFm (k a b c : Int) (g : FL) : Int × Int × Int := layN k a b c (layL g)
theorem layL_len : ∀ g : FL, (layL g).length = g.len
  | nil => rfl
  | cons k a b c g r => by rw [layL, List.length_cons, layL_len r, len]

/-- Kids with rows in rows replaced by their kids. -/
def flatM : Bool → FL → FL
  | _, nil => nil
  | row, cons k a b c g r =>
    if row && decide (k = 2) then (flatM (decide (k = 2)) g).app (flatM row r) else cons k a b c (flatM (decide (k = 2)) g) (flatM row r)

/-! ### Laws -/
theorem flatM_app (row : Bool) : ∀ f g : FL, flatM row (f.app g) = (flatM row f).app (flatM row g)
  | nil, g => rfl
  | cons k a b c f r, g => by
    rw [app, flatM, flatM, flatM_app row r g]
    split
    · rw [app_assoc]
    · rfl
theorem flatM_twice : ∀ (g : FL) (row : Bool), flatM row (flatM row g) = flatM row g
  | nil, row => rfl
  | cons k a b c g r, row => by
    rw [flatM]
    split
    · rename_i h
      rw [Bool.and_eq_true] at h
      rw [flatM_app, flatM_twice r row, h.2, h.1, flatM_twice g true]
    · rename_i h
      rw [flatM, if_neg h, flatM_twice g, flatM_twice r]
theorem flatM_sz : ∀ (g : FL) (row : Bool), (flatM row g).sz ≤ g.sz
  | nil, row => Nat.le_refl _
  | cons k a b c g r, row => by
    rw [flatM]
    have h1 := flatM_sz g (decide (k = 2))
    have h2 := flatM_sz r row
    split
    · rw [sz_app, sz]; omega
    · rw [sz, sz]; omega
theorem flatM_len (row : Bool) (h : row = false) : ∀ g : FL, (flatM row g).len = g.len
  | nil => rfl
  | cons k a b c g r => by subst h; rw [flatM, if_neg (by simp), len, len, flatM_len false rfl r]

theorem bxW_app : ∀ x y, bxW (x ++ y) = bxW x + bxW y
  | [], y => by simp [bxW]
  | p :: r, y => by rw [List.cons_append, bxW, bxW, bxW_app r y]; omega
theorem bxH_nonneg : ∀ x, 0 ≤ bxH x
  | [] => Int.le_refl _
  | p :: r => by rw [bxH]; have := bxH_nonneg r; omega
theorem bxD_nonneg : ∀ x, 0 ≤ bxD x
  | [] => Int.le_refl _
  | p :: r => by rw [bxD]; have := bxD_nonneg r; omega
theorem bxH_app : ∀ x y, bxH (x ++ y) = max (bxH x) (bxH y)
  | [], y => by have := bxH_nonneg y; simp only [List.nil_append, bxH]; omega
  | p :: r, y => by rw [List.cons_append, bxH, bxH, bxH_app r y]; omega
theorem bxD_app : ∀ x y, bxD (x ++ y) = max (bxD x) (bxD y)
  | [], y => by have := bxD_nonneg y; simp only [List.nil_append, bxD]; omega
  | p :: r, y => by rw [List.cons_append, bxD, bxD, bxD_app r y]; omega
theorem layL_app : ∀ f g : FL, layL (f.app g) = layL f ++ layL g
  | nil, g => rfl
  | cons k a b c f r, g => by rw [app, layL, layL, layL_app r g]; rfl
theorem layN_row (a b c : Int) (L : List (Int × Int × Int)) : layN 2 a b c L = (bxW L, bxH L, bxD L) := by
  unfold layN; rw [if_neg (by decide), if_pos rfl]
/-- Flattening keeps boxes: a row's as a whole, the others' one by one. -/
theorem flat_lay : ∀ (g : FL), layL (flatM false g) = layL g ∧ bxW (layL (flatM true g)) = bxW (layL g) ∧ bxH (layL (flatM true g)) = bxH (layL g) ∧ bxD (layL (flatM true g)) = bxD (layL g)
  | nil => ⟨rfl, rfl, rfl, rfl⟩
  | cons k a b c g r => by
    obtain ⟨g1, g2, g3, g4⟩ := flat_lay g
    obtain ⟨r1, r2, r3, r4⟩ := flat_lay r
    by_cases hk : k = 2
    · subst hk
      have e0 : layN 2 a b c (layL (flatM true g)) = layN 2 a b c (layL g) := by rw [layN_row, layN_row, g2, g3, g4]
      rw [flatM, flatM]
      simp only [decide_true, Bool.and_true, if_true]
      rw [layL_app, bxW_app, bxH_app, bxD_app, g2, g3, g4, r2, r3, r4]
      refine ⟨?_, ?_, ?_, ?_⟩
      · show layL (cons 2 a b c (flatM true g) (flatM false r)) = _
        rw [layL, layL, e0, r1]
      · rw [layL, layN_row]; rfl
      · rw [layL, layN_row]; rfl
      · rw [layL, layN_row]; rfl
    · have hd : decide (k = 2) = false := decide_eq_false hk
      rw [flatM, flatM, hd]
      simp only [Bool.and_false, Bool.false_eq_true, if_false]
      rw [layL, layL, layL, g1, r1]
      refine ⟨rfl, ?_, ?_, ?_⟩
      · rw [bxW, bxW, r2]
      · rw [bxH, bxH, r3]
      · rw [bxD, bxD, r4]
theorem flat_layFm (k a b c : Int) (g : FL) : layFm k a b c (flatM (decide (k = 2)) g) = layFm k a b c g := by
  unfold layFm
  obtain ⟨g1, g2, g3, g4⟩ := flat_lay g
  by_cases hk : k = 2
  · subst hk
    have e : decide ((2 : Int) = 2) = true := by decide
    rw [e, layN_row, layN_row, g2, g3, g4]
  · rw [decide_eq_false hk, g1]

/-- Lengths of a valid formula with d levels: not negative, and below. -/
def bnd : Nat → Int
  | 0 => 100
  | d + 1 => 6 * bnd d
theorem bnd_ge : ∀ d, 100 ≤ bnd d
  | 0 => by simp [bnd]
  | d + 1 => by rw [bnd]; have := bnd_ge d; omega
theorem bnd_mono (d : Nat) : bnd (d - 1) ≤ bnd d := by
  cases d with
  | zero => exact Int.le_refl _
  | succ d => rw [Nat.add_sub_cancel, bnd]; have := bnd_ge d; omega
def boxIn (B : Int) (p : Int × Int × Int) : Prop := (0 ≤ p.1 ∧ p.1 ≤ B) ∧ (0 ≤ p.2.1 ∧ p.2.1 ≤ B) ∧ (0 ≤ p.2.2 ∧ p.2.2 ≤ B)
theorem bx_in {B : Int} (h0 : 0 ≤ B) : ∀ (L : List (Int × Int × Int)), (∀ p ∈ L, boxIn B p) → (0 ≤ bxW L ∧ bxW L ≤ B * L.length) ∧ (0 ≤ bxH L ∧ bxH L ≤ B) ∧ (0 ≤ bxD L ∧ bxD L ≤ B)
  | [], _ => by simp [bxW, bxH, bxD, h0]
  | p :: r, h => by
    obtain ⟨a, b, c⟩ := bx_in h0 r (fun q hq => h q (List.mem_cons_of_mem _ hq))
    obtain ⟨x, y, z⟩ := h p (List.mem_cons_self ..)
    rw [bxW, bxH, bxD, List.length_cons]
    have : B * ((r.length + 1 : Nat) : Int) = B * (r.length : Int) + B := by rw [Int.natCast_add, Int.mul_add]; simp
    rw [this]
    refine ⟨⟨by omega, by omega⟩, by omega, by omega⟩
theorem bnd_top {d : Nat} (h : d ≤ 6) : bnd d ≤ 4665600 := by
  rcases (show d = 0 ∨ d = 1 ∨ d = 2 ∨ d = 3 ∨ d = 4 ∨ d = 5 ∨ d = 6 by omega) with rfl | rfl | rfl | rfl | rfl | rfl | rfl <;> simp [bnd]
/-- What okNode says, kind by kind. -/
theorem okNode_cases {k a b c : Int} {n d : Nat} (h : okNode k a b c n d = true) :
    (k = 1 ∧ n = 0 ∧ (0 ≤ a ∧ a ≤ 100) ∧ (0 ≤ b ∧ b ≤ 100) ∧ (0 ≤ c ∧ c ≤ 100)) ∨
    (a = 0 ∧ b = 0 ∧ c = 0 ∧ (n = 0 ∨ 0 < d) ∧ ((k = 2 ∧ n ≤ 6) ∨ (k = 3 ∧ n = 2) ∨ (k = 4 ∧ n = 2) ∨ (k = 5 ∧ n = 2) ∨ (k = 6 ∧ n = 1))) := by
  unfold okNode at h
  by_cases hk : k = 1
  · rw [if_pos hk] at h
    rw [Bool.and_eq_true, Bool.and_eq_true, Bool.and_eq_true, decide_eq_true_eq, decide_eq_true_eq, decide_eq_true_eq, decide_eq_true_eq] at h
    exact .inl ⟨hk, h.1.1.1, h.1.1.2, h.1.2, h.2⟩
  · rw [if_neg hk] at h
    rw [Bool.and_eq_true, Bool.and_eq_true, Bool.or_eq_true, Bool.or_eq_true, Bool.and_eq_true, Bool.and_eq_true, Bool.and_eq_true, decide_eq_true_eq, decide_eq_true_eq, decide_eq_true_eq, decide_eq_true_eq, decide_eq_true_eq, decide_eq_true_eq, decide_eq_true_eq, Bool.not_eq_true', Bool.and_eq_false_iff, decide_eq_false_iff_not, decide_eq_false_iff_not] at h
    obtain ⟨⟨h1, h2, h3, h4⟩, h5⟩ := h
    refine .inr ⟨h2, h3, h4, by omega, ?_⟩
    rcases h1 with (⟨h1, hn⟩ | ⟨h1, hn⟩) | ⟨h1, hn⟩
    · exact .inl ⟨h1, hn⟩
    · rcases h1 with h1 | h1 | h1
      · exact .inr (.inl ⟨h1, hn⟩)
      · exact .inr (.inr (.inl ⟨h1, hn⟩))
      · exact .inr (.inr (.inr (.inl ⟨h1, hn⟩)))
    · exact .inr (.inr (.inr (.inr ⟨h1, hn⟩)))
theorem layN_one (a b c : Int) (L : List (Int × Int × Int)) : layN 1 a b c L = (a, b, c) := rfl
theorem layN_frac (a b c : Int) (x y : Int × Int × Int) : layN 3 a b c [x, y] = (max x.1 y.1, 5 + x.2.1 + x.2.2, max 0 (1 + y.2.1 + y.2.2 - 3)) := rfl
theorem layN_above (a b c : Int) (x y : Int × Int × Int) : layN 4 a b c [x, y] = (x.1 + y.1, max x.2.1 (max 3 (x.2.1 - 3 + y.2.2) + y.2.1), max x.2.2 (y.2.2 - max 3 (x.2.1 - 3 + y.2.2))) := rfl
theorem layN_below (a b c : Int) (x y : Int × Int × Int) : layN 5 a b c [x, y] = (x.1 + y.1, max x.2.1 (y.2.1 - max 3 (x.2.2 + y.2.1 - 3)), max x.2.2 (max 3 (x.2.2 + y.2.1 - 3) + y.2.2)) := rfl
theorem layN_root (a b c : Int) (x : Int × Int × Int) : layN 6 a b c [x] = (x.1 + 3, x.2.1 + 2, x.2.2) := rfl
theorem len_two {α : Type} {L : List α} (h : L.length = 2) : ∃ x y, L = [x, y] := by
  match L, h with
  | [x, y], _ => exact ⟨x, y, rfl⟩
theorem len_one {α : Type} {L : List α} (h : L.length = 1) : ∃ x, L = [x] := by
  match L, h with
  | [x], _ => exact ⟨x, rfl⟩
theorem layN_in {k a b c : Int} {L : List (Int × Int × Int)} {d : Nat} (h : okNode k a b c L.length d = true) (hL : ∀ p ∈ L, boxIn (bnd (d - 1)) p) : boxIn (bnd d) (layN k a b c L) := by
  have h100 := bnd_ge d
  rcases okNode_cases h with ⟨rfl, _, ha, hb, hc⟩ | ⟨rfl, rfl, rfl, hd, hk⟩
  · rw [layN_one]; exact ⟨by simp only; omega, by simp only; omega, by simp only; omega⟩
  · by_cases h0 : L.length = 0
    · obtain rfl : L = [] := List.length_eq_zero_iff.1 h0
      have hk2 : k = 2 := by simp at hk; omega
      subst hk2
      rw [layN_row]
      exact ⟨by simp [bxW]; omega, by simp [bxH]; omega, by simp [bxD]; omega⟩
    · obtain ⟨e, rfl⟩ : ∃ e, d = e + 1 := ⟨d - 1, by omega⟩
      rw [Nat.add_sub_cancel] at hL
      have hB := bnd_ge e
      have hE : bnd (e + 1) = 6 * bnd e := rfl
      rw [hE] at h100 ⊢
      generalize bnd e = B at *
      rcases hk with ⟨rfl, hn⟩ | ⟨rfl, hn⟩ | ⟨rfl, hn⟩ | ⟨rfl, hn⟩ | ⟨rfl, hn⟩
      · obtain ⟨x, y, z⟩ := bx_in (by omega) L hL
        rw [layN_row]
        have hm : B * (L.length : Int) ≤ B * 6 := Int.mul_le_mul_of_nonneg_left (by omega) (by omega)
        exact ⟨by simp only; omega, by simp only; omega, by simp only; omega⟩
      · obtain ⟨x, y, rfl⟩ := len_two hn
        obtain ⟨x1, x2, x3⟩ := hL x (by simp)
        obtain ⟨y1, y2, y3⟩ := hL y (by simp)
        rw [layN_frac]; exact ⟨by simp only; omega, by simp only; omega, by simp only; omega⟩
      · obtain ⟨x, y, rfl⟩ := len_two hn
        obtain ⟨x1, x2, x3⟩ := hL x (by simp)
        obtain ⟨y1, y2, y3⟩ := hL y (by simp)
        rw [layN_above]; exact ⟨by simp only; omega, by simp only; omega, by simp only; omega⟩
      · obtain ⟨x, y, rfl⟩ := len_two hn
        obtain ⟨x1, x2, x3⟩ := hL x (by simp)
        obtain ⟨y1, y2, y3⟩ := hL y (by simp)
        rw [layN_below]; exact ⟨by simp only; omega, by simp only; omega, by simp only; omega⟩
      · obtain ⟨x, rfl⟩ := len_one hn
        obtain ⟨x1, x2, x3⟩ := hL x (by simp)
        rw [layN_root]; exact ⟨by simp only; omega, by simp only; omega, by simp only; omega⟩
theorem allV_in : ∀ (g : FL) (d : Nat), allV d g = true → ∀ p ∈ layL g, boxIn (bnd d) p
  | nil, d, _ => fun p hp => by simp [layL] at hp
  | cons k a b c g r, d, h => by
    rw [allV, Bool.and_eq_true, Bool.and_eq_true] at h
    intro p hp
    rw [layL, List.mem_cons] at hp
    rcases hp with rfl | hp
    · exact layN_in (by rw [layL_len]; exact h.1.1) (allV_in g (d - 1) h.1.2)
    · exact allV_in r d h.2 p hp
theorem okFm_in {k a b c : Int} {g : FL} {d : Nat} (h : okFm k a b c g d = true) : boxIn (bnd d) (layFm k a b c g) := by
  unfold okFm at h
  rw [Bool.and_eq_true] at h
  exact layN_in (by rw [layL_len]; exact h.1) (allV_in g (d - 1) h.2)
theorem bxW_ge {B : Int} : ∀ (L : List (Int × Int × Int)), (∀ p ∈ L, boxIn B p) → 0 ≤ bxW L ∧ ∀ p ∈ L, p.1 ≤ bxW L ∧ p.2.1 ≤ bxH L ∧ p.2.2 ≤ bxD L
  | [], _ => ⟨Int.le_refl _, fun p hp => by simp at hp⟩
  | q :: r, h => by
    obtain ⟨h1, h2⟩ := bxW_ge r (fun p hp => h p (List.mem_cons_of_mem _ hp))
    have hq := (h q (List.mem_cons_self ..)).1
    refine ⟨by rw [bxW]; omega, fun p hp => ?_⟩
    rw [bxW, bxH, bxD]
    rw [List.mem_cons] at hp
    rcases hp with rfl | hp
    · omega
    · have := h2 p hp; omega
/-- A valid formula is as wide and as high as each of its kids. -/
theorem layN_kid {k a b c B : Int} {L : List (Int × Int × Int)} {d : Nat} (h : okNode k a b c L.length d = true) (hL : ∀ p ∈ L, boxIn B p) : ∀ p ∈ L, p.1 ≤ (layN k a b c L).1 ∧ p.2.1 + p.2.2 ≤ (layN k a b c L).2.1 + (layN k a b c L).2.2 := by
  rcases okNode_cases h with ⟨rfl, hn, _⟩ | ⟨rfl, rfl, rfl, _, hk⟩
  · obtain rfl : L = [] := List.length_eq_zero_iff.1 hn
    exact fun p hp => by simp at hp
  · rcases hk with ⟨rfl, hn⟩ | ⟨rfl, hn⟩ | ⟨rfl, hn⟩ | ⟨rfl, hn⟩ | ⟨rfl, hn⟩
    · obtain ⟨x, y⟩ := bxW_ge L hL
      intro p hp
      have := y p hp
      rw [layN_row]; simp only; omega
    · obtain ⟨x, y, rfl⟩ := len_two hn
      obtain ⟨x1, x2, x3⟩ := hL x (by simp)
      obtain ⟨y1, y2, y3⟩ := hL y (by simp)
      intro p hp
      simp only [List.mem_cons, List.not_mem_nil, or_false] at hp
      rw [layN_frac]
      rcases hp with rfl | rfl <;> (simp only; omega)
    · obtain ⟨x, y, rfl⟩ := len_two hn
      obtain ⟨x1, x2, x3⟩ := hL x (by simp)
      obtain ⟨y1, y2, y3⟩ := hL y (by simp)
      intro p hp
      simp only [List.mem_cons, List.not_mem_nil, or_false] at hp
      rw [layN_above]
      rcases hp with rfl | rfl <;> (simp only; omega)
    · obtain ⟨x, y, rfl⟩ := len_two hn
      obtain ⟨x1, x2, x3⟩ := hL x (by simp)
      obtain ⟨y1, y2, y3⟩ := hL y (by simp)
      intro p hp
      simp only [List.mem_cons, List.not_mem_nil, or_false] at hp
      rw [layN_below]
      rcases hp with rfl | rfl <;> (simp only; omega)
    · obtain ⟨x, rfl⟩ := len_one hn
      obtain ⟨x1, x2, x3⟩ := hL x (by simp)
      intro p hp
      simp only [List.mem_cons, List.not_mem_nil, or_false] at hp
      subst hp
      rw [layN_root]; simp only; omega
theorem okNode_mono {k a b c : Int} {n d : Nat} (h : okNode k a b c n d = true) (e : Nat) (he : d ≤ e) : okNode k a b c n e = true := by
  unfold okNode at h ⊢
  split
  · rename_i hk; rw [if_pos hk] at h; exact h
  · rename_i hk; rw [if_neg hk] at h
    rw [Bool.and_eq_true] at h ⊢
    refine ⟨h.1, ?_⟩
    have h2 := h.2
    simp only [Bool.not_eq_true', Bool.and_eq_false_iff, decide_eq_false_iff_not] at h2 ⊢
    omega
theorem allV_mono : ∀ (g : FL) (d e : Nat), d ≤ e → allV d g = true → allV e g = true
  | nil, d, e, _, _ => rfl
  | cons k a b c g r, d, e, hde, h => by
    rw [allV, Bool.and_eq_true, Bool.and_eq_true] at h ⊢
    exact ⟨⟨okNode_mono h.1.1 e hde, allV_mono g (d - 1) (e - 1) (by omega) h.1.2⟩, allV_mono r d e hde h.2⟩
theorem allV_drop : ∀ (n : Nat) (g : FL) (d : Nat), allV d g = true → allV d (drop n g) = true
  | 0, g, d, h => h
  | n + 1, nil, d, _ => rfl
  | n + 1, cons k a b c g r, d, h => by
    rw [allV, Bool.and_eq_true, Bool.and_eq_true] at h
    exact allV_drop n r d h.2
theorem allV_kid {n : Nat} {f : FL} {d : Nat} {k a b c : Int} {g r : FL} (h : allV d f = true) (e : drop n f = cons k a b c g r) : okFm k a b c g d = true := by
  have := allV_drop n f d h
  rw [e, allV, Bool.and_eq_true] at this
  exact this.1
theorem allV_bad {n : Nat} {f : FL} {d : Nat} {k a b c : Int} {g r : FL} (h : okFm k a b c g d = false) (e : drop n f = cons k a b c g r) : allV d f = false := by
  cases h1 : allV d f with
  | false => rfl
  | true => rw [allV_kid h1 e] at h; cases h
end Go.Proofs.Ytdloeiaaokhniaa

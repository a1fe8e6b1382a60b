/- Two drawn indexes; two drawn lists of mentions. -/
import Derived.Test.YtflnbpiegcepcaaDoorDrawMen
import Derived.Test.YtflnbpiegcepcaaDoorIdxColS
import Derived.Test.YtflnbpiegcepcaaDoorIdxMark
import Derived.Test.YtflnbpiegcepcaaDoorIdxOk
namespace Go.Proofs.YtflnbpiegcepcaaDoor
open Go.RowKit
set_option maxHeartbeats 4000000
set_option maxRecDepth 100000
set_option linter.unusedVariables false

theorem small_men {M : List Men} (h : ∀ x ∈ M, x.1.size ≤ 10) : ∀ i, i < M.length → (mw M i).size ≤ maxLen := by
  intro i hi
  have := h M[i] (List.getElem_mem _)
  rw [men_at M i hi] at this
  unfold maxLen
  simp only at this
  omega
theorem colS_words {M : List Men} (h : ∀ x ∈ M, okM x = true) (hl : M.length ≤ 40) : ∀ e ∈ colS M, e.1.size ≤ 20 := by
  have h1 : okMs M = true := by have := okMs_app (B := []) h (by simp) (by simpa using hl); rwa [List.append_nil] at this
  intro e he
  exact okW_size ((okI_mem (okI_colS h1)).2 e he).1
theorem ownE_keeps {rb lo hi : Nat} {w w' : World} {v : Value} {E : List Ent} (h : OwnE lo hi w v E) (hk : Keeps rb w w') (hB : rb < lo) : OwnE lo hi w' v E :=
  h.same (fun b h1 h2 => hk.others b (Nat.lt_of_lt_of_le h2 h.fits) (by omega)) (Nat.le_refl _) (Nat.le_trans h.fits hk.below.size)
/-- Two indexes that can be read. -/
def DrewIdx (w : World) (e : Ending) (w' : World) : Prop := ∃ (v u : Value) (A B : List Ent), A.length ≤ 40 ∧ B.length ≤ 40 ∧ (∀ e ∈ A, e.1.size ≤ 20) ∧ (∀ e ∈ B, e.1.size ≤ 20) ∧ e = .returned (.tuple #[v, u]) ∧ SlE w' v A ∧ SlE w' u B ∧ Below w.heap.size w w'
theorem xE_words {X : List XE} {k : Nat} {x : XE} (h : ∀ e ∈ xE X, e.1.size ≤ 20) (hx : x.1.1.size ≤ 20) : ∀ e ∈ xE (X.set k x), e.1.size ≤ 20 := by
  intro e he
  unfold xE at he
  obtain ⟨y, hy, rfl⟩ := List.mem_map.1 he
  rcases List.mem_or_eq_of_mem_set hy with hy | rfl
  · exact h _ (List.mem_map.2 ⟨y, hy, rfl⟩)
  · exact hx

theorem twoIndexes_any (a : Option Addr) (len cap : Nat) (zs : List Int) (w : World) (h : RowIn .u8 w a len cap zs) :
    Calls Tryd.prog 47 #[.slice a len cap] w (DrewIdx w) := by
  go_enter Tryd.func47, Tryd.ntmps47
  go_wp2_with fail
  refine (newReader_any a len cap zs w h).mono ?_
  rintro e w1 ⟨rfl, hR, hb⟩
  have hb1 := Lib.hid hb
  have hw1 : w.heap.size ≤ w1.heap.size := hb.size
  obtain ⟨rb, hrbe⟩ : ∃ rb, w.heap.size = rb := ⟨_, rfl⟩
  rw [hrbe] at hR hb1 hw1
  have hrb := hR.lies
  clear hb h
  go_wp2_with fail
  refine (randomMentions_any rb 0 _ (by omega) hR).mono ?_
  rintro e w2 ⟨v, M, hM, hMs, rfl, o2, hR2, hK2⟩
  have hs2 : w1.heap.size ≤ w2.heap.size := hK2.below.size
  clear hR
  go_wp2_with fail
  refine (scollectIndex_any v M w2 o2.sl (small_men (fun x hx => (hMs x hx).1))).mono ?_
  rintro e w3 ⟨va, rfl, oa, b3⟩
  have hAw := colS_words (fun x hx => (hMs x hx).2) (by omega)
  have hAl := (colS_facts M).2.1
  generalize colS M = A at *
  have hs3 := b3.size
  have hR3 := hR2.below b3
  have hK3 := hK2.trans (Keeps.of_below hR2.lies b3)
  clear o2 hR2 hK2 b3 hMs hM
  go_wp2_with fail
  refine (randomMentions_any rb (0 + 30) _ (by omega) hR3).mono ?_
  rintro e w4 ⟨v4, M4, hM, hMs, rfl, o4, hR4, hK4⟩
  have hs4 : w3.heap.size ≤ w4.heap.size := hK4.below.size
  have oa := ownE_keeps oa hK4 (by omega)
  have hK4 := hK3.trans hK4
  clear hR3 hK3
  go_wp2_with fail
  refine (scollectIndex_any v4 M4 w4 o4.sl (small_men (fun x hx => (hMs x hx).1))).mono ?_
  rintro e w5 ⟨vb, rfl, ob, b5⟩
  have hBw := colS_words (fun x hx => (hMs x hx).2) (by omega)
  have hBl := (colS_facts M4).2.1
  generalize colS M4 = B at *
  have hs5 := b5.size
  have hR5 := Lib.hid (hR4.below b5)
  have hK5 := Lib.hid (hK4.trans (Keeps.of_below hR4.lies b5))
  have OA := Lib.hid ((oa.below b5).mono (Nat.le_refl _) (by omega : w3.heap.size ≤ w4.heap.size) hs5)
  have OB := Lib.hid ob
  have HAw := Lib.hid hAw
  have HBw := Lib.hid hBw
  clear o4 hR4 hK4 b5 hMs hM oa ob hAw hBw
  have HEnd : Hid (∀ (va : Value) (A : List Ent) (w' : World), A.length ≤ 40 → (∀ e ∈ A, e.1.size ≤ 20) → SlE w' va A → SlE w' vb B → Below rb w1 w' → DrewIdx w (.returned (.tuple #[va, vb])) w') := Lib.hid (by
    intro va A w' h1 h2 h3 h4 h5
    have hB : Below w.heap.size w w' := by rw [hrbe]; exact hb1.out.trans h5
    exact ⟨va, vb, A, B, h1, hBl, h2, HBw.out, rfl, h3, h4, hB⟩)
  obtain ⟨bb, cb, rfl, _, _⟩ := OB.out.sl.shape
  by_cases hn : 1 < A.length
  · have hd : decide ((1 : Int) < (A.length : Int)) = true := decide_eq_true (by omega)
    have hd2 : decide (1 < A.length) = true := decide_eq_true hn
    obtain ⟨X, rfl, hX0⟩ : ∃ X, xE X = A ∧ OwnX w2.heap.size w5 va X := by
      have h := OA.out.mono (Nat.le_refl _) (by omega : w4.heap.size ≤ w5.heap.size) (Nat.le_refl _)
      exact h.rows
    have hXl := xE_len X
    rw [hXl] at hAl hn hd hd2
    obtain ⟨g, cp, rfl, hg1, hg2, hcp, hcm⟩ := hX0.shape (by omega)
    obtain ⟨hgw, OX⟩ : g < w4.heap.size ∧ Hid (OwnX w2.heap.size w5 (.slice (some ⟨g, 0, none⟩) X.length cp) X) := by
      obtain ⟨_, _, _, ht, _⟩ := OA.out
      exact ⟨ht g rfl, Lib.hid hX0⟩
    unfold maxLen at hcm
    clear hX0
    go_wp2_with fail
    refine (pick_pos rb (0 + 30 + 30) 12 _ (by omega) (by omega) hR5.out).mono ?_
    rintro e w6 ⟨x, hx, rfl, hR6, hK6⟩
    have hs6 : w5.heap.size ≤ w6.heap.size := hK6.below.size
    have OX6 : Hid (OwnX w2.heap.size w6 (.slice (some ⟨g, 0, none⟩) X.length cp) X) := Lib.hid (by
      have h := ownE_keeps OX.out.own hK6 (by omega)
      have h := h.mono (Nat.le_refl _) hs6 (Nat.le_refl _)
      refine ⟨ownsM_keeps OX.out.row hK6 (by omega), ?_⟩
      exact OX.out.pg.same (fun b hb => hK6.others b (OX.out.pg.top b hb).1 (by have := OX.out.pg.low b hb; omega)) hs6 (Nat.le_refl _) (fun b hb => (OX.out.pg.top b hb).2))
    have OB6 : Hid (OwnE w4.heap.size w5.heap.size w6 (.slice bb B.length cb) B) := Lib.hid (ownE_keeps OB.out hK6 (by omega))
    have hK6 := Lib.hid (hK5.out.trans hK6)
    clear OX OB OA hR5 hK5 hR6
    by_cases hx0 : x = 0
    · subst hx0
      obtain ⟨c0, c1, fz, _⟩ := OX6.out.at 0 (by omega)
      obtain ⟨d0, _, _, _⟩ := OX6.out.at 1 (by omega)
      have f0 := fz 0
      have HR := Lib.hid (OX6.out.reword (s := X[1].1.1) (k := 0) (by omega))
      have HW2 : Hid (∀ e ∈ xE (X.set 0 ((X[1].1.1, X[0].1.2), X[0].2)), e.1.size ≤ 20) := Lib.hid (xE_words HAw.out (HAw.out X[1].1 (List.mem_map.2 ⟨X[1], List.getElem_mem _, rfl⟩)))
      have HB2 : Hid (SlE (w6.setCell ⟨g, 0, none⟩ (.string X[1].1.1)) (.slice bb B.length cb) B) := Lib.hid (OB6.out.same (fun b h1 h2 => Below.heap_setCell _ _ _ _ (by show b ≠ g; omega)) (Nat.le_refl _) (by simp [World.setCell]; omega)).sl
      rw [Nat.zero_mul] at c0
      rw [Nat.one_mul] at d0
      have hL2 : (xE (X.set 0 ((X[1].1.1, X[0].1.2), X[0].2))).length = X.length := by rw [xE_len, List.length_set]
      clear fz c1 OB6
      generalize X[1].1.1 = t at *
      generalize X[0].1.1 = s at *
      go_wp2_with fail
      go_ret2
      exact HEnd.out _ _ _ (by omega) HW2.out HR.out.own.sl HB2.out (hK6.out.below.setCell (p := ⟨g, 0, none⟩) (by show rb ≤ g; omega) _)
    · have hxe : ((x : Int) == 0) = false := by simpa using hx0
      by_cases hx1 : x = 1
      · subst hx1
        obtain ⟨c0, c1, fz, _⟩ := OX6.out.at 0 (by omega)
        rw [Nat.zero_mul, Nat.zero_add] at c1
        have f1 := fz 1
        have hgs : g < w6.heap.size := by omega
        have hb7 : Below w6.heap.size w6 (w6.alloc (.cells #[] 3)) := (Below.refl _ _).alloc (Nat.le_refl _) _
        have HU : Hid (OwnI w6.heap.size (w6.alloc (.cells #[] 3)).heap.size (w6.alloc (.cells #[] 3)) (.slice (some ⟨w6.heap.size, 0, none⟩) 0 0) []) := Lib.hid ⟨World.ownsRow_lit w6 #[] 0 (Nat.le_refl _) (Nat.zero_le _) rfl, fun k hk => by simp [Value.ownBlock] at hk; subst hk; simp, Nat.le_refl _⟩
        have HR := Lib.hid (OX6.out.stored (k := 0) (s := X[0].1.1) (by omega) rfl (by simp) (fun b hb => hb7.block b hb) HU.out (Nat.le_refl _))
        have HW2 : Hid (∀ e ∈ xE (X.set 0 ((X[0].1.1, []), .slice (some ⟨w6.heap.size, 0, none⟩) 0 0)), e.1.size ≤ 20) := Lib.hid (xE_words HAw.out (HAw.out X[0].1 (List.mem_map.2 ⟨X[0], List.getElem_mem _, rfl⟩)))
        have HB2 : Hid (SlE ((w6.alloc (.cells #[] 3)).setCell ⟨g, 1, none⟩ (.slice (some ⟨w6.heap.size, 0, none⟩) 0 0)) (.slice bb B.length cb) B) := Lib.hid ((OB6.out.below hb7).same (fun b h1 h2 => Below.heap_setCell _ _ _ _ (by show b ≠ g; omega)) (Nat.le_refl _) (by simp [World.setCell]; omega)).sl
        have hL2 : (xE (X.set 0 ((X[0].1.1, []), .slice (some ⟨w6.heap.size, 0, none⟩) 0 0))).length = X.length := by rw [xE_len, List.length_set]
        have HK7 : Hid (Below rb w1 (w6.alloc (.cells #[] 3))) := Lib.hid (hK6.out.below.alloc (by omega) _)
        clear fz c0 OB6 HU
        obtain ⟨o1, ho1⟩ : ∃ u, w6.cell? ⟨g, 1, none⟩ = some u := ⟨_, c1⟩
        go_wp2_with fail
        go_ret2
        rw [← World.setCell_alloc_past (.cells #[] 3) g 1 _ hgs]
        exact HEnd.out _ _ _ (by omega) HW2.out HR.out.own.sl HB2.out (HK7.out.setCell (p := ⟨g, 1, none⟩) (by show rb ≤ g; omega) _)
      · have hxe1 : ((x : Int) == 1) = false := by rw [beq_eq_false_iff_ne]; omega
        go_wp2_with fail
        go_ret2
        exact HEnd.out _ (xE X) _ (by rw [xE_len]; omega) HAw.out OX6.out.own.sl OB6.out.sl hK6.out.below
  · have hd : decide ((1 : Int) < (A.length : Int)) = false := decide_eq_false (by omega)
    have hd2 : decide (1 < A.length) = false := decide_eq_false hn
    obtain ⟨ba, ca, rfl, _, _⟩ := OA.out.sl.shape
    go_wp2_with fail
    go_ret2
    exact HEnd.out _ A _ hAl HAw.out OA.out.sl OB.out.sl hK5.out.below
/-- Drawn indexes are the two of before. -/
theorem drawMergeIndex_any (a : Option Addr) (len cap : Nat) (zs : List Int) (w : World) (h : RowIn .u8 w a len cap zs) :
    Calls Tryd.prog 22 #[.slice a len cap] w (DrewIdx w) := by
  have H := Lib.hid (twoIndexes_any a len cap zs w h)
  clear h
  go_enter Tryd.func22, Tryd.ntmps22
  go_wp2_with fail
  refine H.out.mono ?_
  rintro e w1 ⟨v, u, A, B, h1, h2, h3, h4, rfl, h5, h6, h7⟩
  have HF : Hid (DrewIdx w (.returned (.tuple #[v, u])) w1) := Lib.hid ⟨v, u, A, B, h1, h2, h3, h4, rfl, h5, h6, h7⟩
  obtain ⟨a1, c1, rfl, _, _⟩ := h5.shape
  obtain ⟨a2, c2, rfl, _, _⟩ := h6.shape
  clear h1 h2 h3 h4 h5 h6 h7
  go_wp2_with fail
  go_ret2
  exact HF.out
/-- Two lists of mentions. -/
def DrewMM (w : World) (e : Ending) (w' : World) : Prop := ∃ (v u : Value) (M K : List Men), M.length ≤ 12 ∧ K.length ≤ 12 ∧ (∀ x ∈ M, x.1.size ≤ 10 ∧ okM x = true) ∧ (∀ x ∈ K, x.1.size ≤ 10 ∧ okM x = true) ∧ e = .returned (.tuple #[v, u]) ∧ SlM w' v M ∧ SlM w' u K ∧ Below w.heap.size w w'
theorem drawMergedMentions_any (a : Option Addr) (len cap : Nat) (zs : List Int) (w : World) (h : RowIn .u8 w a len cap zs) :
    Calls Tryd.prog 25 #[.slice a len cap] w (DrewMM w) := by
  go_enter Tryd.func25, Tryd.ntmps25
  go_wp2_with fail
  refine (newReader_any a len cap zs w h).mono ?_
  rintro e w1 ⟨rfl, hR, hb⟩
  have hb1 := Lib.hid hb
  have hw1 : w.heap.size ≤ w1.heap.size := hb.size
  obtain ⟨rb, hrbe⟩ : ∃ rb, w.heap.size = rb := ⟨_, rfl⟩
  rw [hrbe] at hR hb1 hw1
  have hrb := hR.lies
  clear hb h
  go_wp2_with fail
  refine (randomMentions_any rb 0 _ (by omega) hR).mono ?_
  rintro e w2 ⟨v, M, hM, hMs, rfl, o2, hR2, hK2⟩
  have hs2 : w1.heap.size ≤ w2.heap.size := hK2.below.size
  obtain ⟨a2, c2, rfl⟩ := OwnC.slice o2
  clear hR
  go_wp2_with fail
  refine (randomMentions_any rb (0 + 30) _ (by omega) hR2).mono ?_
  rintro e w4 ⟨v4, K, hK, hKs, rfl, o4, hR4, hK4⟩
  have h2 : SlM w4 (.slice a2 M.length c2) M := OwnM.sl (ownC_of (ownsM_keeps (OwnC.row o2) hK4 (by omega)))
  have HF : Hid (DrewMM w (.returned (.tuple #[.slice a2 M.length c2, v4])) w4) := Lib.hid ⟨_, v4, M, K, hM, hK, hMs, hKs, rfl, h2, OwnM.sl o4, by rw [hrbe]; exact hb1.out.trans (hK2.trans hK4).below⟩
  obtain ⟨a4, c4, rfl⟩ := OwnC.slice o4
  clear o2 o4 hMs hKs hK2 hK4 hR2 hR4 h2
  go_wp2_with fail
  go_ret2
  exact HF.out
end Go.Proofs.YtflnbpiegcepcaaDoor

/- Pages added to an index, by the program. -/
import Derived.Test.YtflnbpiegcepcaaDoorIdxIns
import Derived.Test.YtflnbpiegcepcaaDoorIdxSrch
import Derived.Test.YtflnbpiegcepcaaDoorIdxCat
namespace Go.Proofs.YtflnbpiegcepcaaDoor
open Go.RowKit
set_option maxHeartbeats 4000000
set_option maxRecDepth 100000
set_option linter.unusedVariables false

theorem xC_set : ∀ (X : List XE) (k : Nat) (x : XE) (s : ByteArray), k < X.length → (∀ h : k < X.length, X[k].1.1 = s) → x.1.1 = s → (xC X).set (k * 2 + 1) x.2 = xC (X.set k x)
  | [], k, _, _, h, _, _ => by simp at h
  | y :: X, 0, x, s, _, h1, h2 => by
    have h1 : y.1.1 = s := h1 (by simp)
    show (Value.string y.1.1 :: y.2 :: xC X).set (0 * 2 + 1) x.2 = xC (x :: X)
    rw [xC_cons, h1, h2]; rfl
  | y :: X, k + 1, x, s, h, h1, h2 => by
    have ih := xC_set X k x s (by simpa using h) (fun h => h1 (by simpa using h)) h2
    rw [List.set_cons_succ, xC_cons, xC_cons, show (k + 1) * 2 + 1 = (k * 2 + 1) + 1 + 1 by omega, List.set_cons_succ, List.set_cons_succ, ih]
theorem xE_set (X : List XE) (k : Nat) (x : XE) : xE (X.set k x) = (xE X).set k x.1 := by simp [xE, List.map_set]

/-- An index as the rows that hold it. -/
structure OwnX (lo : Nat) (w : World) (v : Value) (X : List XE) : Prop where
  row : w.ownsRow lo 40 2 v X.length (xC X)
  pg : PgOwn lo w.heap.size w v.ownBlock X
theorem OwnX.own {lo : Nat} {w : World} {v : Value} {X : List XE} (h : OwnX lo w v X) : OwnE lo w.heap.size w v (xE X) :=
  ⟨X, rfl, by rw [xE_len]; exact h.row, fun k hk => (h.row.lt k hk).2, h.pg⟩
theorem OwnE.rows {lo : Nat} {w : World} {v : Value} {E : List Ent} (h : OwnE lo w.heap.size w v E) : ∃ X, xE X = E ∧ OwnX lo w v X := by
  obtain ⟨X, rfl, h1, h2, h3⟩ := h
  exact ⟨X, rfl, by rw [xE_len] at h1; exact h1, h3⟩
theorem OwnX.below {lo : Nat} {w w' : World} {v : Value} {X : List XE} (h : OwnX lo w v X) (hb : Below w.heap.size w w') : OwnX lo w' v X :=
  ⟨row_same h.row (fun k hk => hb.block k (h.row.lt k hk).2), (h.pg.below hb).same (fun _ _ => rfl) hb.size (Nat.le_refl _) (fun b hb => (h.pg.top b hb).2)⟩
theorem OwnX.at {lo n cap g : Nat} {w : World} {X : List XE} (h : OwnX lo w (.slice (some ⟨g, 0, none⟩) n cap) X) (k : Nat) (hk : k < X.length) :
    w.cell? ⟨g, k * 2, none⟩ = some (.string X[k].1.1) ∧ w.cell? ⟨g, k * 2 + 1, none⟩ = some X[k].2 ∧ (∀ j, w.frozen? ⟨g, j, none⟩ = false) ∧ SlI w X[k].2 X[k].1.2 := by
  have hn : n = X.length := by
    rcases h.row.2 with ⟨e, _⟩ | ⟨g', cap', cur, e, _⟩
    · injection e with e _ _; cases e
    · injection e
  obtain ⟨c0, c1⟩ := xC_at X k hk
  have hr := h.row
  rw [← hn] at hr
  refine ⟨?_, ?_, fun j => hr.frozenAt j, row_sl (h.pg.pg _ (List.getElem_mem _)) rfl⟩
  · rw [hr.cellAt _ (by omega), c0]
  · rw [hr.cellAt _ (by omega), c1]
theorem OwnX.shape {lo : Nat} {w : World} {v : Value} {X : List XE} (h : OwnX lo w v X) (h0 : 0 < X.length) : ∃ g cap, v = .slice (some ⟨g, 0, none⟩) X.length cap ∧ lo ≤ g ∧ g < w.heap.size ∧ X.length ≤ cap ∧ cap ≤ maxLen := by
  rcases h.row.2 with ⟨rfl, e⟩ | ⟨g, cap, cur, rfl, h1, h2, h3, h4, _⟩
  · omega
  · exact ⟨g, cap, rfl, h1, (Array.getElem?_eq_some_iff.1 h2).1, h3, h4⟩
/-- A word without pages put between others. -/
theorem OwnX.inserted {lo k n : Nat} {w w' : World} {v v' : Value} {X : List XE} {word : ByteArray} (h : OwnX lo w v X) (hn : n = X.length) (hk : k ≤ n)
    (hr : w'.ownsRow lo 40 2 v' (n + 1) ((xC X).take (k * 2) ++ .string word :: .slice none 0 0 :: (xC X).drop (k * 2))) (hg : w.grownBy w' v.ownBlock) (hx : ∀ j, v'.ownBlock = some j → v.ownBlock = some j ∨ w.heap.size ≤ j) :
    OwnX lo w' v' (X.take k ++ ((word, []), .slice none 0 0) :: X.drop k) := by
  subst hn
  have e : (xC X).take (k * 2) ++ .string word :: .slice none 0 0 :: (xC X).drop (k * 2) = xC (X.take k ++ ((word, []), .slice none 0 0) :: X.drop k) := by
    rw [xC_append, xC_cons, xC_take, xC_drop]
  have hl : (X.take k ++ ((word, []), Value.slice none 0 0) :: X.drop k).length = X.length + 1 := by simp; omega
  refine ⟨by rw [hl, ← e]; exact hr, ?_⟩
  have hp : PgOwn lo w'.heap.size w' v'.ownBlock X := h.pg.same (fun b hb => hg.block b (h.pg.top b hb).1 (h.pg.top b hb).2) hg.size (Nat.le_refl _) (fun b hb e => by
    rcases hx b e.symm with e2 | e2
    · exact (h.pg.top b hb).2 e2.symm
    · have := (h.pg.top b hb).1; omega)
  exact hp.insert k ((word, []), .slice none 0 0) (World.ownsRow_nil _ _ _ _) (Nat.le_refl _) (Nat.le_refl _) (fun b hb => by simp [Value.ownBlock] at hb)
/-- The pages of an entry replaced by a new row. -/
theorem OwnX.stored {lo k n cap g m : Nat} {w w' : World} {X : List XE} {s : ByteArray} {L : List Int} {u : Value} (h : OwnX lo w (.slice (some ⟨g, 0, none⟩) n cap) X) (hk : k < X.length) (hs : X[k].1.1 = s)
    (hz : w.heap.size ≤ w'.heap.size) (hb : ∀ b, b < w.heap.size → w'.heap[b]? = w.heap[b]?) (hu : OwnI m w'.heap.size w' u L) (hm : w.heap.size ≤ m) :
    OwnX lo (w'.setCell ⟨g, k * 2 + 1, none⟩ u) (.slice (some ⟨g, 0, none⟩) n cap) (X.set k ((s, L), u)) := by
  have hgl := (h.row.lt g rfl).2
  have hzz : (w'.setCell ⟨g, k * 2 + 1, none⟩ u).heap.size = w'.heap.size := by simp [World.setCell]
  have hn : n = X.length := by
    rcases h.row.2 with ⟨e, _⟩ | ⟨g', cap', cur, e, _⟩
    · injection e with e _ _; cases e
    · injection e
  have hr' : w'.ownsRow lo 40 2 (.slice (some ⟨g, 0, none⟩) n cap) n (xC X) := by rw [hn]; rw [hn] at h; exact row_same h.row (fun j hj => hb j (h.row.lt j hj).2)
  have hrs := (hr'.stored (k * 2 + 1) u).1
  rw [xC_set X k ((s, L), u) s hk (fun _ => hs) rfl] at hrs
  have hoth : ∀ j, j ≠ g → (w'.setCell ⟨g, k * 2 + 1, none⟩ u).heap[j]? = w'.heap[j]? := fun j hj => Below.heap_setCell _ _ _ _ (by simpa using hj)
  refine ⟨by rw [List.length_set, ← hn]; exact hrs, ?_⟩
  have hp : PgOwn lo (w'.setCell ⟨g, k * 2 + 1, none⟩ u).heap.size (w'.setCell ⟨g, k * 2 + 1, none⟩ u) (some g) X := h.pg.same (fun b hbm => by
      have ht := h.pg.top b hbm
      rw [hoth b (fun e => ht.2 (by rw [e]; rfl))]
      exact hb b ht.1) (by rw [hzz]; exact hz) (Nat.le_refl _) (fun b hbm => (h.pg.top b hbm).2)
  refine hp.replace k hk ((s, L), u) ?_ (Nat.le_refl _) (Nat.le_refl _) (fun b hbo => ?_)
  · have := row_low hu.row (Nat.le_trans (Nat.le_trans (h.row.lt g rfl).1 (Nat.le_of_lt hgl)) hm)
    exact row_same this (fun j hj => hoth j (fun e => by have := (hu.row.lt j hj).1; omega))
  · have h1 := hu.row.lt b hbo
    refine ⟨by rw [hzz]; exact h1.2, fun e => by injection e with e; omega, .inl (fun hm2 => ?_)⟩
    have := (h.pg.top b hm2).1; omega

/-- An index whose entry k is about to take pages. -/
structure Ready (lo : Nat) (w W : World) (g k n cap : Nat) (vp : Value) (P : List Int) (lk : List Int) (ak : Option Addr) (ck : Nat) (word : ByteArray) (T : List Ent) (X0 : List XE) : Prop where
  own : OwnX lo W (.slice (some ⟨g, 0, none⟩) n cap) X0
  len : X0.length = n
  wd : ∀ h : k < X0.length, X0[k].1.1 = word
  c1 : W.cell? ⟨g, k * 2 + 1, none⟩ = some (.slice ak lk.length ck)
  sl : SlI W (.slice ak lk.length ck) lk
  pg : SlI W vp P
  bel : Below lo w W
  asc : Asc lk
  small : lk.length + P.length ≤ 100000
  fin : ∀ u : Value, xE (X0.set k ((word, uni lk P), u)) = T
  kn : k < n
  nc : n ≤ cap
  cm : cap ≤ maxLen
theorem ready_of {lo k : Nat} {w W : World} {v vp : Value} {P : List Int} {word : ByteArray} {T : List Ent} {X0 : List XE} (h : OwnX lo W v X0) (hk : k < X0.length) (hs : X0[k].1.1 = word) (hP : SlI W vp P) (hB : Below lo w W) (hA : Asc X0[k].1.2) (hl : X0[k].1.2.length + P.length ≤ 100000)
    (hF : ∀ u : Value, xE (X0.set k ((word, uni X0[k].1.2 P), u)) = T) : ∃ g cap ak ck lk, v = .slice (some ⟨g, 0, none⟩) X0.length cap ∧ Ready lo w W g k X0.length cap vp P lk ak ck word T X0 := by
  obtain ⟨g, cap, rfl, hg1, hg2, hcap, hcm⟩ := h.shape (by omega)
  obtain ⟨c0, c1, fz, hsl⟩ := h.at k hk
  obtain ⟨ak, ck, hsh⟩ := SlI.shape hsl
  rw [hsh] at c1 hsl
  exact ⟨g, cap, ak, ck, X0[k].1.2, rfl, h, rfl, fun _ => hs, c1, hsl, hP, hB, hA, hl, hF, hk, hcap, hcm⟩
theorem SlI.grown {w w' : World} {v : Value} {L : List Int} {r : Option Nat} (h : SlI w v L) (hg : w.grownBy w' r) (hr : v.ownBlock = none ∨ v.ownBlock ≠ r) : SlI w' v L := by
  obtain ⟨a, cap, rfl, h1, h2, h3⟩ := h
  refine ⟨a, cap, rfl, h1, h2, ?_⟩
  rcases h3 with h3 | ⟨b, off, rfl, hb, hc⟩
  · exact .inl h3
  · refine .inr ⟨b, off, rfl, Nat.lt_of_lt_of_le hb hg.size, fun i hi => ?_⟩
    have hne : some b ≠ r := by
      rcases hr with hr | hr
      · simp [Value.ownBlock] at hr
      · exact hr
    rw [World.cell?_of_block (w := w) (hg.block b hb hne)]; exact hc i hi
theorem ins_at (X : List XE) (x : XE) (k : Nat) (h : k ≤ X.length) : (X.take k ++ x :: X.drop k)[k]? = some x := by
  rw [List.getElem?_append_right (by simp; omega)]
  simp [List.length_take, Nat.min_eq_left h]
theorem ins_set (X : List XE) (x y : XE) (k : Nat) (h : k ≤ X.length) : (X.take k ++ x :: X.drop k).set k y = X.take k ++ y :: X.drop k := by
  rw [List.set_append_right _ _ (by simp; omega)]
  simp [List.length_take, Nat.min_eq_left h]
def Added (lo : Nat) (E : List Ent) (word : ByteArray) (P : List Int) (w : World) (e : Ending) (w' : World) : Prop := ∃ v', e = .returned v' ∧ OwnE lo w'.heap.size w' v' (addP E word P) ∧ Below lo w w'
theorem addPages_any (lo : Nat) (v : Value) (E : List Ent) (word : ByteArray) (vp : Value) (P : List Int) (w : World) (hE : OwnE lo w.heap.size w v E) (hP : SlI w vp P) (hne : P ≠ []) (hok : OkE E) (hl : E.length ≤ 500) (hlen : ∀ e ∈ E, e.2.length + P.length ≤ 100000) (hPl : P.length ≤ 100000) (hlo : lo ≤ w.heap.size) (hPb : vp.ownBlock = none ∨ vp.ownBlock ≠ v.ownBlock) :
    Calls Tryd.prog 49 #[v, .string word, vp] w (Added lo E word P w) := by
  obtain ⟨ap, cp, rfl⟩ := SlI.shape hP
  obtain ⟨X, rfl, hX⟩ := hE.rows
  have HS := Lib.hid (search_any v (xE X) word w hE.sl hok.1 (by omega))
  have HX := Lib.hid hX
  have HPd := Lib.hid hP
  have HAt := Lib.hid (addP_at word P (xE X))
  have HOk := Lib.hid hok
  have HLen := Lib.hid hlen
  have hXl := xE_len X
  have HXl := Lib.hid hXl
  have hn0 : 0 < P.length := by cases P with | nil => exact absurd rfl hne | cons _ _ => simp
  obtain ⟨ax, cx, rfl⟩ := row_shape hX.row
  have HPb := Lib.hid hPb
  clear hE hP hX hok hlen hne hPb
  rw [hXl] at hl
  clear hXl
  generalize hXn : X.length = nx at *
  have HXn := Lib.hid hXn
  clear hXn
  go_enter Tryd.func49, Tryd.ntmps49
  go_wp2_with fail
  refine HS.out.mono ?_
  rintro e w1 ⟨k, HPlace, rfl, b1⟩
  have HPl := Lib.hid HPlace
  have HB1 := Lib.hid (b1.mono hlo)
  have HX1 := Lib.hid (HX.out.below b1)
  have HP1 := Lib.hid (HPd.out.below b1)
  have hs1 := b1.size
  clear b1 HS HPlace
  have HAll : Hid (∀ j (h : j < (xE X).length), (xE X)[j] = (ew (xE X) j, ep (xE X) j)) := Lib.hid (fun j h => by simp [ew, ep, List.getD_eq_getElem?_getD, h])
  have HA2 := Lib.hid (HAt.out k HPl.out.1 (fun j h hj => by rw [HAll.out j h]; exact HPl.out.2.1 j hj) (fun h => by rw [HAll.out k h]; exact HPl.out.2.2 h))
  by_cases hf : k < (xE X).length ∧ ew (xE X) k = word
  · rw [decide_eq_true hf]
    have HR : Hid (∃ g cap ak ck lk, Value.slice ax nx cx = .slice (some ⟨g, 0, none⟩) X.length cap ∧ Ready lo w w1 g k X.length cap (.slice ap P.length cp) P lk ak ck word (addP (xE X) word P) X) := Lib.hid (by
      have hXk : k < X.length := by rw [HXn.out, ← HXl.out]; exact hf.1
      obtain ⟨ee1, ee2⟩ := xE_at X k hXk
      have hmem : X[k].1 ∈ xE X := List.mem_map.2 ⟨_, List.getElem_mem _, rfl⟩
      refine ready_of HX1.out hXk (by rw [← ee1]; exact hf.2) HP1.out HB1.out (HOk.out.2 _ hmem).1 (HLen.out _ hmem) (fun u => ?_)
      have h1 := HA2.out.1 (by rw [xE_len]; exact hXk) (by rw [HAll.out k (by rw [xE_len]; exact hXk)]; exact hf.2)
      rw [xE_set, h1, HAll.out k (by rw [xE_len]; exact hXk), ee2])
    obtain ⟨g, cap, ak, ck, lk, e, HR⟩ := HR.out
    injection e with e1 e2 e3
    subst e1 e3
    rw [← e2] at HR
    have c1 := HR.c1
    have hsm := HR.small
    have hkn := HR.kn
    have hnc := HR.nc
    have hcm := HR.cm
    have HR := Lib.hid HR
    unfold maxLen at hcm
    clear hf HAll HA2 HX1 HB1 HP1 HXn HPd HX e2 HXl HPl HOk HLen HAt
    have HCat := Lib.hid (concat_any w1.heap.size _ _ lk P (w1.alloc (.cells #[.slice ak lk.length ck, .slice ap P.length cp] 22)) (by simp) (by simp) (HR.out.sl.below ((Below.refl _ _).alloc (Nat.le_refl _) _)) (HR.out.pg.below ((Below.refl _ _).alloc (Nat.le_refl _) _)) (by omega) (by omega))
    have HSC := Lib.hid (sort_compact_uni lk P HR.out.asc)
    go_wp2_with fail
    refine HCat.out.mono ?_
    rintro e w3 ⟨va, rfl, oa, b3⟩
    have HGrow : Hid (∀ b, b < w1.heap.size → w3.heap[b]? = w1.heap[b]?) := Lib.hid (fun b hb => (b3.block b (by simp; omega)).trans (Below.heap_alloc _ _ b hb))
    have hz3 : w1.heap.size + 1 ≤ w3.heap.size := by have := b3.size; simpa using this
    have hva : ∀ b, va.ownBlock = some b → w1.heap.size < b := fun b hb => by have := (oa.row.lt b hb).1; simp at this; omega
    obtain ⟨aa, ca, rfl⟩ := ownI_slice oa
    have hzl : (lk ++ P).length = lk.length + P.length := List.length_append
    have hzn : (lk ++ P) ≠ [] := fun e => by rw [e] at hzl; simp at hzl; omega
    generalize lk ++ P = zs at *
    have hzl2 : zs.length ≤ 1000000 := by omega
    clear hzl
    have HOA := Lib.hid oa
    have HBo := Lib.hid (HR.out.bel.trans ((((Below.refl _ _).alloc (by have := HR.out.bel.size; omega) _)).trans (b3.mono (by have := HR.out.bel.size; simp; omega))))
    have HVA := Lib.hid hva
    clear HCat oa b3 hva c1
    go_wp2_with fail
    with_reducible refine (sort_own _ _ _ zs w3 HOA.out hzn hzl2).mono ?_
    rintro e w4 ⟨rfl, o4, g4⟩
    have hyl : (zs.mergeSort fun x y => decide (x ≤ y)).length = zs.length := List.length_mergeSort zs
    have hyn : (zs.mergeSort fun x y => decide (x ≤ y)) ≠ [] := fun e => by rw [e] at hyl; exact hzn (List.length_eq_zero_iff.1 hyl.symm)
    have HO4 := Lib.hid o4
    have HG4 := Lib.hid g4
    clear o4 g4
    have hy2 : (zs.mergeSort fun x y => decide (x ≤ y)).length ≤ 1000000 := by omega
    clear hyl
    generalize (zs.mergeSort fun x y => decide (x ≤ y)) = ys at *
    have hgr : ∀ b, b < w1.heap.size → w4.heap[b]? = w1.heap[b]? := fun b hb => (HG4.out.block b (by omega) (fun e => by have := HVA.out b e.symm; omega)).trans (HGrow.out b hb)
    have HGr4 := Lib.hid hgr
    have HB4 : Hid (Below lo w w4) := Lib.hid (HBo.out.grown HG4.out (by have := HBo.out.size; omega) (fun b hb => by have := HVA.out b hb; have := HR.out.bel.size; omega))
    clear hgr
    go_wp2_with fail
    with_reducible refine (compact_own _ _ _ ys w4 HO4.out hyn hy2).mono ?_
    rintro e w5 ⟨v5, rfl, o5, g5, hb5⟩
    have HGr5 : Hid (∀ b, b < w1.heap.size → w5.heap[b]? = w1.heap[b]?) := Lib.hid (fun b hb => (g5.block b (by have := HG4.out.size; omega) (fun e => by have := HVA.out b e.symm; omega)).trans (HGr4.out b hb))
    have HB5 : Hid (Below lo w w5) := Lib.hid (HB4.out.grown g5 (by have := HB4.out.size; omega) (fun b hb => by have := HVA.out b hb; have := HR.out.bel.size; omega))
    have hz5 : w1.heap.size ≤ w5.heap.size := by have := HG4.out.size; have := g5.size; omega
    rw [HSC.out] at o5
    have HO5 := Lib.hid (o5.mono (Nat.le_refl _) (Nat.le_trans (Nat.le_trans (by omega) HG4.out.size) g5.size) (Nat.le_refl _))
    obtain ⟨a5, c5, rfl⟩ := ownI_slice o5
    have hgW : g < w1.heap.size := (HR.out.own.row.lt g rfl).2
    have hgl : lo ≤ g := (HR.out.own.row.lt g rfl).1
    obtain ⟨_, _, fz, _⟩ := HR.out.own.at k (by rw [HR.out.len]; exact hkn)
    have c6 : w5.cell? ⟨g, k * 2 + 1, none⟩ = some (.slice ak lk.length ck) := by rw [World.cell?_of_block (w := w1) (HGr5.out g hgW)]; exact HR.out.c1
    have f6 : w5.frozen? ⟨g, k * 2 + 1, none⟩ = false := by rw [World.frozen?_of_block (w := w1) (HGr5.out g hgW)]; exact fz _
    have HFin : Hid (Added lo (xE X) word P w (.returned (.slice (some ⟨g, 0, none⟩) nx cx)) (w5.setCell ⟨g, k * 2 + 1, none⟩ (.slice a5 (uni lk P).length c5))) := Lib.hid (by
      have hk2 : k < X.length := by rw [HR.out.len]; exact hkn
      have ho := HR.out.own.stored (s := word) hk2 (HR.out.wd hk2) hz5 HGr5.out HO5.out (by simp)
      have hw := ho.own
      rw [HR.out.fin] at hw
      exact ⟨_, rfl, hw, HB5.out.setCell hgl _⟩)
    clear o5 g5 hb5 fz
    go_wp2_with fail
    go_ret
    exact HFin.out
  · rw [decide_eq_false hf]
    have hC : ∀ u ∈ xC X, u.oneCell' = true := HX1.out.pg.one
    have hkn : k ≤ nx := by rw [← HXl.out]; exact HPl.out.1
    have hbx : (Value.slice ax nx cx).ownBlock ≠ some w1.heap.size := fun e => by have := (HX1.out.row.lt _ e).2; omega
    have hXa : OwnX lo (w1.alloc (.cells #[.string word, .slice none 0 0] 40)) (.slice ax nx cx) X := HX1.out.below ((Below.refl _ _).alloc (Nat.le_refl _) _)
    have HIns := Lib.hid (insert_any lo (.slice ax nx cx) nx k (xC X) (.string word) (.slice none 0 0) w1.heap.size (w1.alloc (.cells #[.string word, .slice none 0 0] 40)) (by have := hXa.row; rw [HXn.out] at this; exact this) (by simp; omega) (by omega) hkn hbx (heap_alloc_new w1 _) rfl rfl hC)
    have HXa := Lib.hid hXa
    have HPn : Hid (k = (xE X).length ∨ ∃ h : k < (xE X).length, (xE X)[k].1 ≠ word) := Lib.hid (by
      by_cases h : k < (xE X).length
      · refine .inr ⟨h, fun e => hf ⟨h, ?_⟩⟩
        rw [HAll.out k h] at e; exact e
      · exact .inl (by have := HPl.out.1; omega))
    clear hf hC hbx hXa
    go_wp2_with fail
    refine HIns.out.mono ?_
    rintro e w2 ⟨v2, rfl, hr2, hg2, hx2⟩
    have HX2 := Lib.hid (HXa.out.inserted (HXn.out).symm hkn hr2 hg2 hx2)
    have HB2 : Hid (Below lo w w2) := Lib.hid ((HB1.out.alloc (by omega) _).grown hg2 (by simp; omega) (fun j hj => (HXa.out.row.lt j hj).1))
    have HP2 : Hid (SlI w2 (.slice ap P.length cp) P) := Lib.hid (SlI.grown (HP1.out.below ((Below.refl _ _).alloc (Nat.le_refl _) _)) hg2 HPb.out)
    clear HIns hr2 hg2 hx2
    obtain ⟨Y, hY⟩ : ∃ Y, X.take k ++ ((word, []), Value.slice none 0 0) :: X.drop k = Y := ⟨_, rfl⟩
    have hYl : Y.length = nx + 1 := by rw [← hY]; simp; have := HXn.out; omega
    have hYk : Y[k]'(by omega) = ((word, []), Value.slice none 0 0) := by
      have h := ins_at X ((word, []), Value.slice none 0 0) k (by rw [HXn.out]; exact hkn)
      rw [hY, List.getElem?_eq_getElem (by omega)] at h
      exact Option.some.inj h
    have HR : Hid (∃ g cap ak ck lk, v2 = .slice (some ⟨g, 0, none⟩) Y.length cap ∧ Ready lo w w2 g k Y.length cap (.slice ap P.length cp) P lk ak ck word (addP (xE X) word P) Y) := Lib.hid (by
      rw [hY] at HX2
      refine ready_of HX2.out (by omega) (by rw [hYk]) HP2.out HB2.out (by rw [hYk]; exact List.Pairwise.nil) (by rw [hYk]; simpa using hPl) (fun u => ?_)
      rw [HA2.out.2 HPn.out, hYk, ← hY, ins_set X _ _ k (by rw [HXn.out]; exact hkn)]
      simp [xE])
    obtain ⟨g, cap, ak, ck, lk, rfl, HQ⟩ := HR.out
    clear HR
    have HR := HQ
    clear HQ
    rw [hYl] at HR ⊢
    have c1 := HR.c1
    have hsm := HR.small
    have hkn := HR.kn
    have hnc := HR.nc
    have hcm := HR.cm
    have HR := Lib.hid HR
    unfold maxLen at hcm
    clear HAll HA2 HX1 HB1 HP1 HXn HPd HX HXl HPl HOk HLen HAt HX2 HB2 HP2 HXa HPn hY hYl hYk
    have HCat := Lib.hid (concat_any w2.heap.size _ _ lk P (w2.alloc (.cells #[.slice ak lk.length ck, .slice ap P.length cp] 22)) (by simp) (by simp) (HR.out.sl.below ((Below.refl _ _).alloc (Nat.le_refl _) _)) (HR.out.pg.below ((Below.refl _ _).alloc (Nat.le_refl _) _)) (by omega) (by omega))
    have HSC := Lib.hid (sort_compact_uni lk P HR.out.asc)
    go_wp2_with fail
    refine HCat.out.mono ?_
    rintro e w3 ⟨va, rfl, oa, b3⟩
    have HGrow : Hid (∀ b, b < w2.heap.size → w3.heap[b]? = w2.heap[b]?) := Lib.hid (fun b hb => (b3.block b (by simp; omega)).trans (Below.heap_alloc _ _ b hb))
    have hz3 : w2.heap.size + 1 ≤ w3.heap.size := by have := b3.size; simpa using this
    have hva : ∀ b, va.ownBlock = some b → w2.heap.size < b := fun b hb => by have := (oa.row.lt b hb).1; simp at this; omega
    obtain ⟨aa, ca, rfl⟩ := ownI_slice oa
    have hzl : (lk ++ P).length = lk.length + P.length := List.length_append
    have hzn : (lk ++ P) ≠ [] := fun e => by rw [e] at hzl; simp at hzl; omega
    generalize lk ++ P = zs at *
    have hzl2 : zs.length ≤ 1000000 := by omega
    clear hzl
    have HOA := Lib.hid oa
    have HBo := Lib.hid (HR.out.bel.trans ((((Below.refl _ _).alloc (by have := HR.out.bel.size; omega) _)).trans (b3.mono (by have := HR.out.bel.size; simp; omega))))
    have HVA := Lib.hid hva
    clear HCat oa b3 hva c1
    go_wp2_with fail
    with_reducible refine (sort_own _ _ _ zs w3 HOA.out hzn hzl2).mono ?_
    rintro e w4 ⟨rfl, o4, g4⟩
    have hyl : (zs.mergeSort fun x y => decide (x ≤ y)).length = zs.length := List.length_mergeSort zs
    have hyn : (zs.mergeSort fun x y => decide (x ≤ y)) ≠ [] := fun e => by rw [e] at hyl; exact hzn (List.length_eq_zero_iff.1 hyl.symm)
    have HO4 := Lib.hid o4
    have HG4 := Lib.hid g4
    clear o4 g4
    have hy2 : (zs.mergeSort fun x y => decide (x ≤ y)).length ≤ 1000000 := by omega
    clear hyl
    generalize (zs.mergeSort fun x y => decide (x ≤ y)) = ys at *
    have hgr : ∀ b, b < w2.heap.size → w4.heap[b]? = w2.heap[b]? := fun b hb => (HG4.out.block b (by omega) (fun e => by have := HVA.out b e.symm; omega)).trans (HGrow.out b hb)
    have HGr4 := Lib.hid hgr
    have HB4 : Hid (Below lo w w4) := Lib.hid (HBo.out.grown HG4.out (by have := HBo.out.size; omega) (fun b hb => by have := HVA.out b hb; have := HR.out.bel.size; omega))
    clear hgr
    go_wp2_with fail
    with_reducible refine (compact_own _ _ _ ys w4 HO4.out hyn hy2).mono ?_
    rintro e w5 ⟨v5, rfl, o5, g5, hb5⟩
    have HGr5 : Hid (∀ b, b < w2.heap.size → w5.heap[b]? = w2.heap[b]?) := Lib.hid (fun b hb => (g5.block b (by have := HG4.out.size; omega) (fun e => by have := HVA.out b e.symm; omega)).trans (HGr4.out b hb))
    have HB5 : Hid (Below lo w w5) := Lib.hid (HB4.out.grown g5 (by have := HB4.out.size; omega) (fun b hb => by have := HVA.out b hb; have := HR.out.bel.size; omega))
    have hz5 : w2.heap.size ≤ w5.heap.size := by have := HG4.out.size; have := g5.size; omega
    rw [HSC.out] at o5
    have HO5 := Lib.hid (o5.mono (Nat.le_refl _) (Nat.le_trans (Nat.le_trans (by omega) HG4.out.size) g5.size) (Nat.le_refl _))
    obtain ⟨a5, c5, rfl⟩ := ownI_slice o5
    have hgW : g < w2.heap.size := (HR.out.own.row.lt g rfl).2
    have hgl : lo ≤ g := (HR.out.own.row.lt g rfl).1
    obtain ⟨_, _, fz, _⟩ := HR.out.own.at k (by rw [HR.out.len]; exact hkn)
    have c6 : w5.cell? ⟨g, k * 2 + 1, none⟩ = some (.slice ak lk.length ck) := by rw [World.cell?_of_block (w := w2) (HGr5.out g hgW)]; exact HR.out.c1
    have f6 : w5.frozen? ⟨g, k * 2 + 1, none⟩ = false := by rw [World.frozen?_of_block (w := w2) (HGr5.out g hgW)]; exact fz _
    have HFin : Hid (Added lo (xE X) word P w (.returned (.slice (some ⟨g, 0, none⟩) (nx + 1) cap)) (w5.setCell ⟨g, k * 2 + 1, none⟩ (.slice a5 (uni lk P).length c5))) := Lib.hid (by
      have hk2 : k < Y.length := by rw [HR.out.len]; exact hkn
      have ho := HR.out.own.stored (s := word) hk2 (HR.out.wd hk2) hz5 HGr5.out HO5.out (by simp)
      have hw := ho.own
      rw [HR.out.fin] at hw
      exact ⟨_, rfl, hw, HB5.out.setCell hgl _⟩)
    clear o5 g5 hb5 fz
    go_wp2_with fail
    go_ret
    exact HFin.out
end Go.Proofs.YtflnbpiegcepcaaDoor

/- Marking the entries of an index and holding the marks; comparing two indexes. -/
import Derived.Test.YtflnbpiegcepcaaDoorIdxMem
import Derived.Test.YtflnbpiegcepcaaDoorIdxIns
import Derived.Test.YtflnbpiegcepcaaDoorIdxAdd
import Derived.StillTailTactics
import Derived.Lib.ItoaMem
import Derived.Deep.RegionWith
namespace Go.Proofs.YtflnbpiegcepcaaDoor
open Go.RowKit
set_option maxHeartbeats 4000000
set_option maxRecDepth 100000
set_option linter.unusedVariables false

/-! ### The text of a mark -/
def tx : Nat → Nat → ByteArray → ByteArray
  | 0, _, o => o
  | f + 1, j, o => if j = 0 then o else tx f (j / 10) (⟨#[UInt8.ofNat (48 + j % 10)]⟩ ++ o)
def mkT (k : Nat) : ByteArray := ⟨#[109]⟩ ++ tx k k ⟨#[]⟩
theorem tx_zero : ∀ f o, tx f 0 o = o
  | 0, _ => rfl
  | f + 1, o => by rw [tx, if_pos rfl]
theorem dig_byteM (d : Nat) (h : d < 10) : (48 + (d : Int)) = ((UInt8.ofNat (48 + d)).toNat : Int) := by
  rw [UInt8.toNat_ofNat', Nat.mod_eq_of_lt (by omega)]; omega
theorem conv_oneM (W : World) (g : Nat) (x : Int) (d : Nat) (hd : d < 10) (hx : x = 48 + (d : Int)) (hc : W.cell? ⟨g, 0, none⟩ = some (.int .u8 x)) :
    (convert 27 9 (.slice (some ⟨g, 0, none⟩) 1 1)).run Tryd.prog W = .ok (.string ⟨#[UInt8.ofNat (48 + d)]⟩) W := by
  have hcv := run_convert_bytes_back (P := Tryd.prog) W 27 9 5 ⟨g, 0, none⟩ 1 [UInt8.ofNat (48 + d)] Tryd.underlying27 Tryd.underlying5 Tryd.underlying9 (by
    intro j hj
    obtain rfl : j = 0 := by simp at hj; omega
    simp only [Addr.add]
    rw [hx, dig_byteM d hd] at hc
    simpa using hc)
  exact hcv
theorem markText_any (k : Nat) (w : World) (h0 : 0 < k) (hk : k ≤ 1000000000) :
    Calls Tryd.prog 59 #[.int .i64 k] w fun e w' => e = .returned (.string (mkT k)) ∧ Below w.heap.size w w' := by
  have hd : decide ((k : Int) ≤ 0) = false := decide_eq_false (by omega)
  have HK : Hid (mkT k = ⟨#[109]⟩ ++ tx k k ⟨#[]⟩) := Lib.hid rfl
  go_enter Tryd.func59, Tryd.ntmps59
  go_wp2_with fail
  go_loopw [0, 3] (fun a b wr => ∃ (j f : Nat) (o : ByteArray), a = .int .i64 j ∧ b = .string o ∧ j ≤ f ∧ j ≤ k ∧ o.size + j ≤ k ∧ Hid (tx f j o = tx k k ⟨#[]⟩) ∧ Hid (Below w.heap.size w wr)) (fun a _ _ => (intOf a).toNat)
  case atStart => exact ⟨k, k, ⟨#[]⟩, rfl, rfl, Nat.le_refl _, Nat.le_refl _, by show 0 + k ≤ k; omega, Lib.hid rfl, Lib.hid (Below.refl _ _)⟩
  case round =>
    obtain ⟨j, f, o, rfl, rfl, hf, hj, hs, HT, HB⟩ := hrel
    by_cases hz : 0 < j
    · obtain ⟨f', rfl⟩ : ∃ f', f = f' + 1 := ⟨f - 1, by omega⟩
      have hd2 : decide ((0 : Int) < j) = true := decide_eq_true (by omega)
      have HT2 : Hid (tx f' (j / 10) (⟨#[UInt8.ofNat (48 + j % 10)]⟩ ++ o) = tx k k ⟨#[]⟩) := Lib.hid (by
        have := HT.out
        rw [tx, if_neg (by omega)] at this
        exact this)
      have hbs := HB.out.size
      have hm : (j : Int) % 10 = ((j % 10 : Nat) : Int) := by omega
      have hcv := conv_oneM (wr.alloc (.cells #[.int .u8 (48 + (j : Int) % 10)] 5)) wr.heap.size (48 + (j : Int) % 10) (j % 10) (by omega) (by rw [hm]) (by simp)
      have HB2 : Hid (Below w.heap.size w (wr.alloc (.cells #[.int .u8 (48 + (j : Int) % 10)] 5))) := Lib.hid (HB.out.alloc hbs _)
      have HSz : Hid ((⟨#[UInt8.ofNat (48 + j % 10)]⟩ ++ o : ByteArray).size = o.size + 1) := Lib.hid (by
        rw [ByteArray.size_append]; show 1 + o.size = _; omega)
      clear HT hm
      obtain ⟨c, hc⟩ : ∃ c, UInt8.ofNat (48 + j % 10) = c := ⟨_, rfl⟩
      rw [hc] at HT2 hcv HSz
      clear hc
      go_wp2_with fail
      refine ⟨⟨j / 10, f', _, by rw [show (j : Int) / 10 = ((j / 10 : Nat) : Int) by omega], rfl, by omega, by omega, ?_, HT2, HB2⟩, by simp [intOf]; omega⟩
      rw [HSz.out]; omega
    · obtain rfl : j = 0 := by omega
      have hT := HT.out
      rw [tx_zero] at hT
      have HE : Hid (mkT k = ⟨#[109]⟩ ++ o) := Lib.hid (by rw [HK.out, hT])
      clear HT hT HK
      have hd2 : decide ((0 : Int) < 0) = false := rfl
      go_wp2_with fail
      go_ret
      exact ⟨by rw [HE.out]; rfl, HB.out⟩

/-! ### Worlds in which only blocks of [lo, hi) were written -/
structure Wrote (lo hi : Nat) (w w' : World) : Prop where
  os : w'.os = w.os
  tape : w'.tape = w.tape
  output : w'.output = w.output
  size : w.heap.size ≤ w'.heap.size
  block : ∀ b, b < w.heap.size → (b < lo ∨ hi ≤ b) → w'.heap[b]? = w.heap[b]?
theorem Wrote.refl (lo hi : Nat) (w : World) : Wrote lo hi w w := ⟨rfl, rfl, rfl, Nat.le_refl _, fun _ _ _ => rfl⟩
theorem Wrote.trans {lo hi : Nat} {a b c : World} (h : Wrote lo hi a b) (k : Wrote lo hi b c) : Wrote lo hi a c :=
  ⟨k.os.trans h.os, k.tape.trans h.tape, k.output.trans h.output, Nat.le_trans h.size k.size, fun j h1 h2 => (k.block j (Nat.lt_of_lt_of_le h1 h.size) h2).trans (h.block j h1 h2)⟩
theorem Wrote.of_below {lo hi : Nat} {a b : World} (h : Below a.heap.size a b) : Wrote lo hi a b := ⟨h.os, h.tape, h.output, h.size, fun j h1 _ => h.block j h1⟩
theorem Wrote.set {lo hi : Nat} {w : World} {g o : Nat} {u : Value} (h1 : lo ≤ g) (h2 : g < hi) : Wrote lo hi w (w.setCell ⟨g, o, none⟩ u) :=
  ⟨rfl, rfl, rfl, by simp [World.setCell], fun j _ hj => Below.heap_setCell _ _ _ _ (by simp only; omega)⟩
theorem Wrote.of_grown {lo hi : Nat} {w w' : World} {r : Option Nat} (h : w.grownBy w' r) (hr : ∀ k, r = some k → lo ≤ k ∧ k < hi) : Wrote lo hi w w' :=
  ⟨h.os, h.tape, h.output, h.size, fun j h1 h2 => h.block j h1 (fun e => by have := hr j e.symm; omega)⟩
theorem Wrote.below {lo hi B : Nat} {w w' : World} (h : Wrote lo hi w w') (h1 : B ≤ lo) (h2 : B ≤ w.heap.size) : Below B w w' := ⟨h.os, h.tape, h.output, h.size, fun j hj => h.block j (by omega) (.inl (by omega))⟩
theorem OwnE.beside {lo hi lo2 hi2 : Nat} {w w' : World} {v : Value} {E : List Ent} (h : OwnE lo hi w v E) (k : Wrote lo2 hi2 w w') (hd : hi ≤ lo2 ∨ hi2 ≤ lo) : OwnE lo hi w' v E :=
  h.same (fun b h1 h2 => k.block b (Nat.lt_of_lt_of_le h2 h.fits) (by omega)) (Nat.le_refl _) (Nat.le_trans h.fits k.size)

/-! ### Marks -/
def mE : Nat → List Ent → List Ent
  | _, [] => []
  | k, (s, L) :: E => (mkT k, marks (k + 1 : Nat) L.length) :: mE (k + 1 + L.length) E
def mN : List Ent → Nat
  | [] => 0
  | (_, L) :: E => 1 + L.length + mN E
theorem mE_len : ∀ (k : Nat) (E : List Ent), (mE k E).length = E.length
  | _, [] => rfl
  | k, (s, L) :: E => by rw [mE, List.length_cons, mE_len, List.length_cons]
/-- The mark of entry i: its number is k + the marks ahead. -/
def mk0 (k : Nat) (E : List Ent) (i : Nat) : Nat := k + mN (E.take i)
theorem mN_append : ∀ E F : List Ent, mN (E ++ F) = mN E + mN F
  | [], F => by simp [mN]
  | (s, L) :: E, F => by rw [List.cons_append, mN, mN, mN_append E F]; omega
theorem mE_append : ∀ (k : Nat) (E F : List Ent), mE k (E ++ F) = mE k E ++ mE (k + mN E) F
  | k, [], F => by simp [mE, mN]
  | k, (s, L) :: E, F => by rw [List.cons_append, mE, mE, mN, mE_append, List.cons_append]; congr 3; omega
theorem mk0_succ (k : Nat) (E : List Ent) (i : Nat) (h : i < E.length) : mk0 k E (i + 1) = mk0 k E i + 1 + (ep E i).length := by
  unfold mk0
  rw [List.take_succ_eq_append_getElem h, mN_append]
  have : ep E i = E[i].2 := by simp [ep, List.getD_eq_getElem?_getD, h]
  rw [this]
  show k + (mN _ + (1 + E[i].2.length + 0)) = _
  omega
theorem mk0_end (k : Nat) (E : List Ent) : mk0 k E E.length = k + mN E := by unfold mk0; rw [List.take_length]
theorem mk0_le (k : Nat) (E : List Ent) (i : Nat) : mk0 k E i ≤ k + mN E := by
  unfold mk0
  have h : mN E = mN (E.take i) + mN (E.drop i) := by rw [← mN_append, List.take_append_drop]
  omega
/-- Entries of which the first i are marked. -/
def mMix (k : Nat) (E : List Ent) (i : Nat) : List Ent := mE k (E.take i) ++ E.drop i
theorem mMix_zero (k : Nat) (E : List Ent) : mMix k E 0 = E := by simp [mMix, mE]
theorem mMix_end (k : Nat) (E : List Ent) : mMix k E E.length = mE k E := by simp [mMix]
theorem mMix_len (k : Nat) (E : List Ent) (i : Nat) : (mMix k E i).length = E.length := by unfold mMix; rw [List.length_append, mE_len, List.length_take, List.length_drop]; omega
theorem mMix_succ (k : Nat) (E : List Ent) (i : Nat) (h : i < E.length) : mMix k E (i + 1) = (mMix k E i).set i (mkT (mk0 k E i), marks (mk0 k E i + 1 : Nat) (ep E i).length) := by
  have h1 : (mE k (E.take i)).length = i := by rw [mE_len, List.length_take]; omega
  have e : E[i] = (E[i].1, ep E i) := by simp [ep, List.getD_eq_getElem?_getD, h]
  unfold mMix
  rw [List.take_succ_eq_append_getElem h, mE_append, List.set_append_right _ _ (by omega), h1, Nat.sub_self, List.drop_eq_getElem_cons h, List.set_cons_zero, List.append_assoc]
  congr 1
  rw [e]; rfl
theorem mMix_at (k : Nat) (E : List Ent) (i : Nat) (h : i < E.length) : ew (mMix k E i) i = ew E i ∧ ep (mMix k E i) i = ep E i := by
  have h1 : (mE k (E.take i)).length = i := by rw [mE_len, List.length_take]; omega
  have : (mMix k E i)[i]? = E[i]? := by
    unfold mMix
    rw [List.getElem?_append_right (by omega), h1, Nat.sub_self, List.getElem?_drop, Nat.add_zero]
  unfold ew ep
  rw [List.getD_eq_getElem?_getD, List.getD_eq_getElem?_getD, this]
  simp
theorem mE_at (k : Nat) (E : List Ent) (i : Nat) (h : i < E.length) : ew (mE k E) i = mkT (mk0 k E i) ∧ ep (mE k E) i = marks (mk0 k E i + 1 : Nat) (ep E i).length := by
  have h1 : (mE k (E.take i)).length = i := by rw [mE_len, List.length_take]; omega
  have hE : E = E.take i ++ E[i] :: E.drop (i + 1) := by rw [List.getElem_cons_drop, List.take_append_drop]
  have e : E[i] = (E[i].1, ep E i) := by simp [ep, List.getD_eq_getElem?_getD, h]
  have : (mE k E)[i]? = some (mkT (mk0 k E i), marks (mk0 k E i + 1 : Nat) (ep E i).length) := by
    conv => lhs; rw [hE]
    rw [mE_append, List.getElem?_append_right (by omega), h1, Nat.sub_self, e]; rfl
  unfold ew ep
  rw [List.getD_eq_getElem?_getD, List.getD_eq_getElem?_getD, this]
  exact ⟨rfl, rfl⟩
/-- The word of an entry written over. -/
theorem OwnX.reword {lo k n cap g : Nat} {w : World} {X : List XE} {s : ByteArray} (h : OwnX lo w (.slice (some ⟨g, 0, none⟩) n cap) X) (hk : k < X.length) :
    OwnX lo (w.setCell ⟨g, k * 2, none⟩ (.string s)) (.slice (some ⟨g, 0, none⟩) n cap) (X.set k ((s, X[k].1.2), X[k].2)) := by
  have hgl := (h.row.lt g rfl).2
  have hn : n = X.length := by
    rcases h.row.2 with ⟨e, _⟩ | ⟨g', cap', cur, e, _⟩
    · injection e with e _ _; cases e
    · injection e
  have hr' : w.ownsRow lo 40 2 (.slice (some ⟨g, 0, none⟩) n cap) n (xC X) := by rw [hn]; rw [hn] at h; exact h.row
  have hrs := (hr'.stored (k * 2) (.string s)).1
  have hzz : (w.setCell ⟨g, k * 2, none⟩ (.string s)).heap.size = w.heap.size := by simp [World.setCell]
  have e : ∀ (Y : List XE) (j : Nat) (hj : j < Y.length), (xC Y).set (j * 2) (.string s) = xC (Y.set j ((s, Y[j].1.2), Y[j].2)) := by
    intro Y
    induction Y with
    | nil => intro j hj; simp at hj
    | cons y Y ih =>
      intro j hj
      cases j with
      | zero => rfl
      | succ j =>
        have := ih j (by simpa using hj)
        rw [xC_cons, show (j + 1) * 2 = j * 2 + 1 + 1 by omega, List.set_cons_succ, List.set_cons_succ, this, List.set_cons_succ, xC_cons]; rfl
  rw [e X k hk] at hrs
  have hoth : ∀ j, j ≠ g → (w.setCell ⟨g, k * 2, none⟩ (.string s)).heap[j]? = w.heap[j]? := fun j hj => Below.heap_setCell _ _ _ _ (by simpa using hj)
  refine ⟨by rw [List.length_set, ← hn]; exact hrs, ?_⟩
  have hp : PgOwn lo (w.setCell ⟨g, k * 2, none⟩ (.string s)).heap.size (w.setCell ⟨g, k * 2, none⟩ (.string s)) (some g) X := h.pg.same (fun b hbm => hoth b (fun e => (h.pg.top b hbm).2 (by rw [e]; rfl))) (by rw [hzz]; exact Nat.le_refl _) (Nat.le_refl _) (fun b hbm => (h.pg.top b hbm).2)
  refine hp.replace k hk ((s, X[k].1.2), X[k].2) (show PgRow lo _ ((s, X[k].1.2), X[k].2) from hp.pg X[k] (List.getElem_mem hk)) (Nat.le_refl _) (Nat.le_refl _) (fun b hbo => ?_)
  have hm : b ∈ xB X := xB_mem.2 ⟨_, List.getElem_mem hk, hbo⟩
  exact ⟨(hp.top b hm).1, (hp.top b hm).2, .inr hbo⟩

theorem xB_map (X : List XE) : xB X = (X.map (·.2)).filterMap Value.ownBlock := by unfold xB; rw [List.filterMap_map]; rfl
theorem xB_apart {X : List XE} (h : (xB X).Nodup) {i j : Nat} (hi : i < X.length) (hj : j < X.length) (hij : i ≠ j) {b : Nat} (h1 : X[i].2.ownBlock = some b) : X[j].2.ownBlock ≠ some b := by
  intro h2
  unfold xB at h
  rw [List.nodup_iff_pairwise_ne, List.pairwise_filterMap, List.pairwise_iff_getElem] at h
  rcases Nat.lt_or_gt_of_ne hij with hlt | hlt
  · exact h i j hi hj hlt b h1 b h2 rfl
  · exact h j i hj hi hlt b h2 b h1 rfl
/-- The pages of an entry written over in place. -/
theorem OwnX.repaged {lo k : Nat} {w w' : World} {v : Value} {X : List XE} {L' : List Int} (h : OwnX lo w v X) (hk : k < X.length) (hg : w.grownBy w' X[k].2.ownBlock) (hr : w'.ownsRow lo 3 1 X[k].2 L'.length (L'.map (Value.int .i64))) :
    OwnX lo w' v (X.set k ((X[k].1.1, L'), X[k].2)) := by
  have eC : xC (X.set k ((X[k].1.1, L'), X[k].2)) = xC X := by
    have := xC_set X k ((X[k].1.1, L'), X[k].2) X[k].1.1 hk (fun _ => rfl) rfl
    rw [← this]
    apply List.ext_getElem?
    intro j
    by_cases e : j = k * 2 + 1
    · subst e
      rw [List.getElem?_set_self (by rw [xC_len]; omega)]
      exact (xC_at X k hk).2.symm
    · rw [List.getElem?_set_ne (fun e2 => e e2.symm)]
  have eB : xB (X.set k ((X[k].1.1, L'), X[k].2)) = xB X := by
    rw [xB_map, xB_map, List.map_set]
    congr 1
    apply List.ext_getElem?
    intro j
    by_cases e : j = k
    · subst e; rw [List.getElem?_set_self (by simpa using hk)]; simp [hk]
    · rw [List.getElem?_set_ne (fun e2 => e e2.symm)]
  refine ⟨?_, Nat.le_refl _, ?_, by rw [eB]; exact h.pg.nd, fun b hb => ?_⟩
  · rw [List.length_set, eC]
    refine row_same h.row (fun j hj => hg.block j (h.row.lt j hj).2 (fun e => ?_))
    exact (h.pg.top j (xB_mem.2 ⟨_, List.getElem_mem hk, e.symm⟩)).2 hj.symm
  · intro y hy
    obtain ⟨j, hj, rfl⟩ := List.getElem_of_mem hy
    rw [List.length_set] at hj
    by_cases e : j = k
    · subst e
      rw [List.getElem_set_self]; exact hr
    · rw [List.getElem_set_ne (fun e2 => e e2.symm)]
      refine row_same (h.pg.pg _ (List.getElem_mem hj)) (fun b hb => hg.block b (h.pg.top b (xB_mem.2 ⟨_, List.getElem_mem hj, hb⟩)).1 (fun e2 => ?_))
      exact xB_apart h.pg.nd hk hj (fun e3 => e e3.symm) e2.symm hb
  · rw [eB] at hb
    have := h.pg.top b hb
    exact ⟨Nat.lt_of_lt_of_le this.1 hg.size, this.2⟩

def MarkedE (lo hi : Nat) (v : Value) (E : List Ent) (k : Nat) (w : World) (e : Ending) (w' : World) : Prop := e = .returned (.int .i64 (k + mN E : Nat)) ∧ OwnE lo hi w' v (mE k E) ∧ Wrote lo hi w w'
theorem markEntryS_any (lo hi : Nat) (v : Value) (E : List Ent) (k : Nat) (w : World) (hk : 0 < k) (hkn : k + mN E ≤ 100000000) (h : OwnE lo hi w v E) :
    Calls Tryd.prog 31 #[v, .int .i64 k] w (MarkedE lo hi v E k w) := by
  obtain ⟨X, rfl, h1, h2, h3⟩ := h
  have hX : OwnX lo w v X := ⟨by rw [xE_len] at h1; exact h1, h3.same (fun _ _ => rfl) h3.fits (Nat.le_refl _) (fun b hb => (h3.top b hb).2)⟩
  have HH : Hid ((∀ j, v.ownBlock = some j → j < hi) ∧ ∀ b ∈ xB X, b < hi) := Lib.hid ⟨h2, fun b hb => (h3.top b hb).1⟩
  have hhi := h3.fits
  obtain ⟨ax, cx, rfl⟩ := row_shape hX.row
  have HX0 := Lib.hid hX
  have HLe := Lib.hid (fun i => mk0_le k (xE X) i)
  have HSucc := Lib.hid (fun i (h : i < (xE X).length) => (⟨mk0_succ k (xE X) i h, mMix_succ k (xE X) i h, mMix_at k (xE X) i h⟩ : _ ∧ _ ∧ _))
  have HEnd := Lib.hid (⟨mk0_end k (xE X), mMix_end k (xE X), mMix_zero k (xE X)⟩ : _ ∧ _ ∧ _)
  have HK0 : Hid (mk0 k (xE X) 0 = k) := Lib.hid (by unfold mk0; rw [List.take_zero, mN]; rfl)
  have hcx : X.length ≤ cx ∧ cx ≤ maxLen := by
    rcases hX.row.2 with ⟨e, e0⟩ | ⟨g, cap', cur, e, _, _, h3, h4, _⟩
    · injection e with _ _ e; subst e; exact ⟨by omega, Nat.zero_le _⟩
    · injection e with _ _ e; subst e; exact ⟨h3, h4⟩
  obtain ⟨hc1, hc2⟩ := hcx
  unfold maxLen at hc2
  have hXl := xE_len X
  have HXl := Lib.hid hXl
  have HKn := Lib.hid hkn
  rw [hXl] at HSucc HEnd
  clear hX h1 h2 h3 hXl hkn
  obtain ⟨n, hn⟩ : ∃ n, X.length = n := ⟨_, rfl⟩
  have HN := Lib.hid hn
  rw [hn] at HX0 HSucc HEnd HXl hc1 HH ⊢
  clear hn
  go_enter Tryd.func31, Tryd.ntmps31
  go_wp2_with fail
  go_loopw [1, 5] (fun a i wr => ∃ (j m : Nat) (X' : List XE), j ≤ n ∧ i = .int .i64 j ∧ a = .int .i64 m ∧ Hid (m = mk0 k (xE X) j) ∧ Hid (OwnX lo wr (.slice ax n cx) X' ∧ xE X' = mMix k (xE X) j ∧ X'.map (·.2) = X.map (·.2)) ∧ Hid (Wrote lo hi w wr)) (fun _ i _ => n - (intOf i).toNat)
  case atStart => exact ⟨0, k, X, by omega, rfl, rfl, Lib.hid HK0.out.symm, Lib.hid ⟨HX0.out, HEnd.out.2.2.symm, rfl⟩, Lib.hid (Wrote.refl _ _ _)⟩
  case round =>
    clear HX0
    obtain ⟨j, m, X', hj, rfl, rfl, HM, HX, HW⟩ := hrel
    have hm1 : m ≤ 100000000 := by have := HM.out; have := HLe.out j; have := HKn.out; omega
    have hm0 : 0 < m := by have := HM.out; unfold mk0 at this; omega
    by_cases hlt : j < n
    · have hl' : X'.length = n := by have := congrArg List.length HX.out.2.2; simpa [HN.out] using this
      have hjX : j < X'.length := by omega
      obtain ⟨g, cap, e, hg1, hg2, hcap, hcm⟩ := HX.out.1.shape (by omega)
      injection e with e1 e2 e3
      subst e1 e3
      have hghi : g < hi := HH.out.1 g rfl
      obtain ⟨s1, s2, s3⟩ := HSucc.out j hlt
      have HS := Lib.hid (⟨s1, s2, s3⟩ : _ ∧ _ ∧ _)
      clear s1 s2 s3 e2
      have HT := Lib.hid (markText_any m wr hm0 (by omega))
      go_wp2_with fail
      refine HT.out.mono ?_
      rintro e w1 ⟨rfl, b1⟩
      have hX1 := HX.out.1.below b1
      obtain ⟨c0, c1, fz, hsl⟩ := hX1.at j hjX
      have HX2 := Lib.hid (hX1.reword (s := mkT m) hjX)
      have HW2 : Hid (Wrote lo hi w (w1.setCell ⟨g, j * 2, none⟩ (.string (mkT m)))) := Lib.hid ((HW.out.trans (Wrote.of_below b1)).trans (Wrote.set hg1 hghi))
      obtain ⟨u, L, hu, hL⟩ : ∃ u L, X'[j].2 = u ∧ X'[j].1.2 = L := ⟨_, _, rfl, rfl⟩
      have hLp : L = ep (xE X) j := by rw [← hL, ← (xE_at X' j hjX).2, HX.out.2.1]; exact HS.out.2.2.2
      have hpg : PgRow lo (w1.setCell ⟨g, j * 2, none⟩ (.string (mkT m))) ((mkT m, L), u) := by
        have h := HX2.out.pg.pg ((mkT m, X'[j].1.2), X'[j].2) (List.mem_set (by omega) _)
        rw [hu, hL] at h; exact h
      obtain ⟨au, cu, hsh⟩ : ∃ au cu, u = .slice au L.length cu := row_shape hpg
      subst hsh
      have c1' : (w1.setCell ⟨g, j * 2, none⟩ (.string (mkT m))).cell? ⟨g, j * 2 + 1, none⟩ = some (.slice au L.length cu) := by
        exact (World.cell?_setCell_other w1 ⟨g, j * 2, none⟩ _ (b := ⟨g, j * 2 + 1, none⟩) (by simp)).trans (by rw [c1, hu])
      have hf0 := fz (j * 2)
      have HOI : Hid (OwnI lo (w1.setCell ⟨g, j * 2, none⟩ (.string (mkT m))).heap.size (w1.setCell ⟨g, j * 2, none⟩ (.string (mkT m))) (.slice au L.length cu) L) := Lib.hid ⟨hpg, fun q hq => (hpg.lt q hq).2, Nat.le_refl _⟩
      have hml : m + 1 + L.length ≤ 100000000 := by
        have h1 := HS.out.1; have h2 := HLe.out (j + 1); have h3 := HKn.out; have h4 := HM.out
        rw [hLp]; omega
      have HMk := Lib.hid (markIntS_any lo _ (.slice au L.length cu) L (m + 1) _ (by omega) (by omega) HOI.out)
      have HHu : Hid (∀ q, (Value.slice au L.length cu).ownBlock = some q → lo ≤ q ∧ q < hi) := Lib.hid (fun q hq => ⟨(hpg.lt q hq).1, HH.out.2 q (by
        rw [xB_map, ← HX.out.2.2, ← xB_map]
        exact xB_mem.2 ⟨_, List.getElem_mem hjX, by rw [hu]; exact hq⟩)⟩)
      clear hX1 b1 hpg hsl fz c1
      have HEq := Lib.hid (⟨hu, hL, hLp⟩ : _ ∧ _ ∧ _)
      clear hu hL hLp HOI HT
      have HM2 : Hid (mkT m = mkT (mk0 k (xE X) j)) := Lib.hid (by rw [HM.out])
      generalize mkT m = tm at *
      go_wp2_with fail
      refine HMk.out.mono ?_
      rintro e w3 ⟨rfl, o3, g3⟩
      have HX3 : Hid (OwnX lo w3 (.slice (some ⟨g, 0, none⟩) n cx) (X'.set j ((tm, marks ((m : Int) + 1) L.length), .slice au L.length cu))) := Lib.hid (by
        have hlen : j < (X'.set j ((tm, X'[j].1.2), X'[j].2)).length := by rw [List.length_set]; exact hjX
        have h := HX2.out.repaged (k := j) (w' := w3) (L' := marks ((m : Int) + 1) L.length) hlen (by rw [List.getElem_set_self]; show World.grownBy _ w3 X'[j].2.ownBlock; rw [HEq.out.1]; exact g3) (by rw [List.getElem_set_self]; show w3.ownsRow lo _ 1 X'[j].2 _ _; rw [HEq.out.1]; exact o3.row)
        rw [List.getElem_set_self, List.set_set, HEq.out.1] at h
        exact h)
      have HW3 : Hid (Wrote lo hi w w3) := Lib.hid (HW2.out.trans (Wrote.of_grown g3 HHu.out))
      have HR : Hid (OwnX lo w3 (.slice (some ⟨g, 0, none⟩) n cx) (X'.set j ((tm, marks ((m : Int) + 1) L.length), .slice au L.length cu)) ∧ xE (X'.set j ((tm, marks ((m : Int) + 1) L.length), .slice au L.length cu)) = mMix k (xE X) (j + 1) ∧ (X'.set j ((tm, marks ((m : Int) + 1) L.length), .slice au L.length cu)).map (·.2) = X.map (·.2)) := Lib.hid (by
        refine ⟨HX3.out, ?_, ?_⟩
        · rw [xE_set, HX.out.2.1, HS.out.2.1, HM2.out, HEq.out.2.2]
          congr 3
          rw [HM.out]; rfl
        · rw [List.map_set, ← HX.out.2.2]
          apply List.ext_getElem?
          intro q
          by_cases e : q = j
          · subst e; rw [List.getElem?_set_self (by simpa using hjX)]; simp [hjX, HEq.out.1]
          · rw [List.getElem?_set_ne (fun e2 => e e2.symm)])
      have HM3 : Hid (m + 1 + L.length = mk0 k (xE X) (j + 1)) := Lib.hid (by rw [HS.out.1, ← HEq.out.2.2, HM.out])
      clear HX2 HX3 HW2 HMk o3 g3 c1' hf0 c0
      go_wp2_with fail
      go_roundw
      case rel => exact ⟨j + 1, m + 1 + L.length, _, by omega, by go_num, by rw [show (m : Int) + 1 + (L.length : Int) = ((m + 1 + L.length : Nat) : Int) by omega], HM3, HR, HW3⟩
      case measure => simp [intOf]; omega
    · obtain rfl : j = n := by omega
      have HF : Hid (MarkedE lo hi (.slice ax j cx) (xE X) k w (.returned (.int .i64 m)) wr) := Lib.hid (by
        refine ⟨by rw [HM.out, HEnd.out.1], ⟨X', ?_, ?_, HH.out.1, ?_⟩, HW.out⟩
        · rw [HX.out.2.1, HEnd.out.2.1]
        · have := HX.out.1.row
          have hl : X'.length = j := by have := congrArg List.length HX.out.2.2; simpa [HN.out] using this
          rw [mE_len, HXl.out]; rwa [hl] at this
        · refine ⟨Nat.le_trans hhi HW.out.size, HX.out.1.pg.pg, HX.out.1.pg.nd, fun b hb => ⟨HH.out.2 b ?_, (HX.out.1.pg.top b hb).2⟩⟩
          rw [xB_map, ← HX.out.2.2, ← xB_map]; exact hb)
      clear HM HX HW
      go_wp2_with fail
      go_ret
      exact HF.out
end Go.Proofs.YtflnbpiegcepcaaDoor

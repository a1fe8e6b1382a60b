/- Indexes in the laws: sizes and copies. -/
import Derived.Test.YtflnbpiegcepcaaDoorIdxMark
import Derived.Test.YtflnbpiegcepcaaDoorIdxCol
import Derived.Test.YtflnbpiegcepcaaDoorIdxHas
import Derived.StillTailTactics
namespace Go.Proofs.YtflnbpiegcepcaaDoor
open Go.RowKit
set_option maxHeartbeats 4000000
set_option maxRecDepth 100000
set_option linter.unusedVariables false

theorem szIntS_m (v : Value) (L : List Int) (left : Int) (w : World) (h : SlI w v L) (h0 : 0 ≤ left) (h1 : left ≤ 1048576) :
    Calls Tryd.prog 81 #[v, .int .i64 left] w fun e w' => e = .returned (.int .i64 (if left < L.length then -1 else left - L.length)) ∧ w = w' := by
  obtain ⟨a, cap, rfl, h2, h3, _⟩ := h
  unfold maxLen at h3
  have hw : IntKind.i64.wrap (left - (L.length : Int)) = left - L.length := IntWalk.i64_in _ (by omega)
  by_cases h : left < L.length
  · have hd : decide (left - (L.length : Int) < 0) = true := decide_eq_true (by omega)
    rw [if_pos h]
    clear h
    go_enter Tryd.func81, Tryd.ntmps81
    go_wp2_with fail
    go_ret
    exact ⟨rfl, rfl⟩
  · have hd : decide (left - (L.length : Int) < 0) = false := decide_eq_false (by omega)
    rw [if_neg h]
    clear h
    go_enter Tryd.func81, Tryd.ntmps81
    go_wp2_with fail
    go_ret
    exact ⟨rfl, rfl⟩
def SzE (m : Nat) (left : Int) (w : World) (e : Ending) (w' : World) : Prop := ∃ r : Int, e = .returned (.int .i64 r) ∧ r ≤ left ∧ (0 ≤ r → (m : Int) + r ≤ left) ∧ Below w.heap.size w w'
theorem szEntry_any (s : ByteArray) (vp : Value) (L : List Int) (left : Int) (w : World) (hv : SlI w vp L) (h0 : 0 ≤ left) (h1 : left ≤ 1048576) (hs : s.size ≤ maxLen) :
    Calls Tryd.prog 56 #[.agg #[.string s, vp], .int .i64 left] w (SzE L.length left w) := by
  have HEnd : Hid (∀ (r : Int) (w' : World), r ≤ left → (0 ≤ r → (L.length : Int) + r ≤ left) → Below w.heap.size w w' → SzE L.length left w (.returned (.int .i64 r)) w') := Lib.hid (fun r w' a b c => ⟨r, rfl, a, b, c⟩)
  obtain ⟨a, cap, hsh⟩ := SlI.shape hv
  have hba : Below w.heap.size w (w.alloc (.cells #[.string s, vp] 78)) := (Below.refl _ _).alloc (Nat.le_refl _) _
  have HV := Lib.hid (fun (l : Int) (h0 : 0 ≤ l) (h1 : l ≤ 1048576) => szIntS_m vp L l _ (hv.below hba) h0 h1)
  have HBA := Lib.hid hba
  have hl : L.length ≤ 9223372036854775807 := by obtain ⟨a, c, e, h2, h3, _⟩ := hv; unfold maxLen at h3; omega
  subst hsh
  clear hba hv
  unfold maxLen at hs
  generalize hn : L.length = n at *
  have hw : IntKind.i64.wrap (left - (s.size : Int)) = left - s.size := IntWalk.i64_in _ (by omega)
  by_cases h : left < s.size
  · have hd : decide (left - (s.size : Int) < 0) = true := decide_eq_true (by omega)
    clear HV
    go_enter Tryd.func56, Tryd.ntmps56
    go_wp2_with fail
    go_ret
    exact HEnd.out _ _ (by omega) (by omega) HBA.out
  · have hd : decide (left - (s.size : Int) < 0) = false := decide_eq_false (by omega)
    have HV2 := Lib.hid (HV.out (left - (s.size : Int)) (by omega) (by omega))
    clear HV
    by_cases h2 : left - (s.size : Int) < n
    · rw [if_pos h2] at HV2
      clear h h2
      go_enter Tryd.func56, Tryd.ntmps56
      go_wp2_with fail
      refine HV2.out.mono ?_
      rintro e w2 ⟨rfl, rfl⟩
      go_wp2_with fail
      go_ret
      exact HEnd.out _ _ (by omega) (by omega) HBA.out
    · rw [if_neg h2] at HV2
      have hd2 : decide (left - (s.size : Int) - (n : Int) < 0) = false := decide_eq_false (by omega)
      have hr1 : left - (s.size : Int) - (n : Int) ≤ left := by omega
      have hr2 : (n : Int) + (left - (s.size : Int) - (n : Int)) ≤ left := by omega
      have HR := Lib.hid (HEnd.out (left - (s.size : Int) - (n : Int)) _ hr1 (fun _ => hr2) HBA.out)
      clear h h2 hr1 hr2
      go_enter Tryd.func56, Tryd.ntmps56
      go_wp2_with fail
      refine HV2.out.mono ?_
      rintro e w2 ⟨rfl, rfl⟩
      go_wp2_with fail
      go_ret
      exact HR.out
theorem mN_take (E : List Ent) (i : Nat) (h : i < E.length) : mN (E.take (i + 1)) = mN (E.take i) + (1 + (ep E i).length) := by
  have := mk0_succ 0 E i h
  unfold mk0 at this
  omega
theorem szEntryS_any (v : Value) (E : List Ent) (left : Int) (w : World) (h : SlE w v E) (hz : ∀ i, i < E.length → (ew E i).size ≤ maxLen) (h0 : 0 ≤ left) (h1 : left ≤ 1048576) :
    Calls Tryd.prog 28 #[v, .int .i64 left] w (SzE (mN E) left w) := by
  have HS := Lib.hid h
  have HZ := Lib.hid hz
  obtain ⟨a, cap, rfl, hc, hm⟩ := h.shape
  unfold maxLen at hm
  clear h hz
  have HEnd : Hid (∀ (r : Int) (w' : World), r ≤ left → (0 ≤ r → (mN E : Int) + r ≤ left) → Below w.heap.size w w' → SzE (mN E) left w (.returned (.int .i64 r)) w') := Lib.hid (fun r w' a b c => ⟨r, rfl, a, b, c⟩)
  have HT := Lib.hid (mN_take E)
  -- the count of entries is taken off first
  have HT2 : Hid (∃ f : Nat → Nat, f 0 = 0 ∧ (∀ i, i < E.length → f (i + 1) = f i + (ep E i).length) ∧ mN E = E.length + f E.length) := Lib.hid ⟨fun i => mN (E.take i) - (E.take i).length, by simp [mN], fun i hi => by
    have e1 := HT.out i hi
    have hle : ∀ F : List Ent, F.length ≤ mN F := fun F => by
      induction F with
      | nil => simp [mN]
      | cons x F ih => obtain ⟨s, L⟩ := x; rw [mN, List.length_cons]; omega
    have h1 := hle (E.take i)
    show mN (E.take (i + 1)) - (E.take (i + 1)).length = mN (E.take i) - (E.take i).length + (ep E i).length
    rw [List.length_take] at h1 ⊢
    rw [List.length_take]
    omega, by
    have hle : ∀ F : List Ent, F.length ≤ mN F := fun F => by
      induction F with
      | nil => simp [mN]
      | cons x F ih => obtain ⟨s, L⟩ := x; rw [mN, List.length_cons]; omega
    show mN E = E.length + (mN (E.take E.length) - (E.take E.length).length)
    rw [List.take_length]
    have := hle E
    omega⟩
  obtain ⟨f, f0, fs, fe⟩ := HT2.out
  have HF0 := Lib.hid f0
  have HFs := Lib.hid fs
  have HFe := Lib.hid fe
  clear HT HT2 f0 fs fe
  generalize mN E = mE at *
  obtain ⟨n, hn⟩ : ∃ n, E.length = n := ⟨_, rfl⟩
  rw [hn] at HS HZ HFs HFe hc ⊢
  clear hn
  have hw : IntKind.i64.wrap (left - (n : Int)) = left - n := IntWalk.i64_in _ (by omega)
  by_cases hl : left < n
  · have hd : decide (left - (n : Int) < 0) = true := decide_eq_true (by omega)
    go_enter Tryd.func28, Tryd.ntmps28
    go_wp2_with fail
    go_ret
    exact HEnd.out _ _ (by omega) (by omega) (Below.refl _ _)
  · have hd : decide (left - (n : Int) < 0) = false := decide_eq_false (by omega)
    go_enter Tryd.func28, Tryd.ntmps28
    go_wp2_with fail
    go_loopw [1, 5] (fun l i wr => ∃ (j : Nat) (y : Int), j ≤ n ∧ i = .int .i64 j ∧ l = .int .i64 y ∧ 0 ≤ y ∧ y ≤ left ∧ Hid (y + f j + n ≤ left) ∧ Hid (Below w.heap.size w wr)) (fun _ i _ => n - (intOf i).toNat)
    case atStart => exact ⟨0, left - n, by omega, rfl, rfl, by omega, by omega, Lib.hid (by rw [HF0.out]; omega), Lib.hid (Below.refl _ _)⟩
    case round =>
      obtain ⟨j, y, hj, rfl, rfl, y0, y1, HY, HB⟩ := hrel
      by_cases hlt : j < n
      · obtain ⟨b, off, rfl, hbl, hat⟩ := HS.out.at (by omega)
        obtain ⟨vp, c0, c1, hsl⟩ := hat j hlt
        rw [← (bcell HB.out).1 _ _ hbl] at c0 c1
        have HC := Lib.hid (szEntry_any (ew E j) vp (ep E j) y wr (hsl.below HB.out) y0 (by omega) (HZ.out j hlt))
        have HFj := Lib.hid (HFs.out j hlt)
        obtain ⟨av, cv, hsh⟩ := SlI.shape hsl
        subst hsh
        clear hat hsl
        generalize ew E j = s at *
        generalize (ep E j).length = m at *
        go_wp2_with fail
        refine HC.out.mono ?_
        rintro e w2 ⟨r, rfl, r1, r2, b2⟩
        have HB2 : Hid (Below w.heap.size w w2) := Lib.hid (HB.out.trans (b2.mono HB.out.size))
        clear b2 HC c0 c1
        by_cases hr : r < 0
        · have hd3 : decide (r < 0) = true := decide_eq_true hr
          go_wp2_with fail
          go_ret
          exact HEnd.out _ _ (by omega) (by omega) HB2.out
        · have hd3 : decide (r < 0) = false := decide_eq_false hr
          have HY2 : Hid (r + f (j + 1) + n ≤ left) := Lib.hid (by have h1 := HY.out; have h2 := HFj.out; have h3 := r2 (by omega); omega)
          clear r2 HY HFj
          go_wp2_with fail
          go_roundw
          case rel => exact ⟨j + 1, r, by omega, by go_num, rfl, by omega, by omega, HY2, HB2⟩
          case measure => simp [intOf]; omega
      · obtain rfl : j = n := by omega
        have hE := HEnd.out y wr y1 (fun _ => by have h1 := HY.out; have h2 := HFe.out; omega) HB.out
        have hE := Lib.hid hE
        clear HY HFe HFs HEnd
        go_wp2_with fail
        go_ret
        exact hE.out

/-! ### Copies -/
theorem toEntry_any (s : ByteArray) (vp : Value) (L : List Int) (w : World) (hv : SlI w vp L) (hl : L.length ≤ 1048576) :
    Calls Tryd.prog 57 #[.agg #[.string s, vp]] w fun e w' => ∃ v', e = .returned (.agg #[.string s, v']) ∧ OwnI w.heap.size w'.heap.size w' v' L ∧ Below w.heap.size w w' := by
  obtain ⟨a, cap, hsh⟩ := SlI.shape hv
  have HV := Lib.hid hv
  subst hsh
  clear hv
  have hba : Below w.heap.size w (((w.alloc (.cells #[.string s, .slice a L.length cap] 78)).alloc (.cells #[.string ⟨#[]⟩, .slice none 0 0] 40)).alloc (.cells #[.string s, .slice none 0 0] 40)) :=
    (((Below.refl _ _).alloc (Nat.le_refl _) _).alloc (by simp) _).alloc (by simp; omega) _
  have HC := Lib.hid (toIntS_any (.slice a L.length cap) L _ hl (HV.out.below hba))
  have HBA := Lib.hid hba
  clear hba HV
  go_enter Tryd.func57, Tryd.ntmps57
  go_wp2_with fail
  refine HC.out.mono ?_
  rintro e w2 ⟨v2, rfl, o2, b2⟩
  obtain ⟨a2, c2, rfl⟩ := ownI_slice o2
  obtain ⟨hc, hf⟩ := bcell b2
  have hz : w.heap.size + 1 + 1 < w2.heap.size := by have := b2.size; simp at this; omega
  go_wp2_with fail
  refine bodyPost_ret (v := .agg #[.string s, .slice a2 L.length c2]) (by simp [results, Tryd.results57, go_sem, hc]) rfl ⟨_, rfl, ?_, ?_⟩
  · have hlo : w.heap.size + 1 + 1 < (((w.alloc (.cells #[.string s, .slice a L.length cap] 78)).alloc (.cells #[.string ⟨#[]⟩, .slice none 0 0] 40)).alloc (.cells #[.string s, .slice none 0 0] 40)).heap.size := by simp
    have ho : ∀ j, w.heap.size + 1 + 1 < j → (((w2.setCell ⟨w.heap.size + 1 + 1, 1, none⟩ (.slice a2 L.length c2)).setCell ⟨w.heap.size + 1, 0, none⟩ (.string s)).setCell ⟨w.heap.size + 1, 1, none⟩ (.slice a2 L.length c2)).heap[j]? = w2.heap[j]? := fun j hj =>
      ((Below.heap_setCell _ _ _ _ (by show j ≠ w.heap.size + 1; omega)).trans (Below.heap_setCell _ _ _ _ (by show j ≠ w.heap.size + 1; omega))).trans (Below.heap_setCell _ _ _ _ (by show j ≠ w.heap.size + 1 + 1; omega))
    have hsz : (((w2.setCell ⟨w.heap.size + 1 + 1, 1, none⟩ (.slice a2 L.length c2)).setCell ⟨w.heap.size + 1, 0, none⟩ (.string s)).setCell ⟨w.heap.size + 1, 1, none⟩ (.slice a2 L.length c2)).heap.size = w2.heap.size := by simp [World.setCell]
    have h1 := row_low o2.row (show w.heap.size ≤ _ by omega)
    exact ⟨row_same h1 (fun k hk => ho k (by have := (o2.row.lt k hk).1; omega)), fun k hk => by rw [hsz]; exact (o2.row.lt k hk).2, by rw [hsz]; exact Nat.le_refl _⟩
  · exact (((HBA.out.trans (b2.mono HBA.out.size)).setCell (p := ⟨w.heap.size + 1 + 1, 1, none⟩) (by show w.heap.size ≤ w.heap.size + 1 + 1; omega) _).setCell (p := ⟨w.heap.size + 1, 0, none⟩) (by show w.heap.size ≤ w.heap.size + 1; omega) _).setCell (p := ⟨w.heap.size + 1, 1, none⟩) (by show w.heap.size ≤ w.heap.size + 1; omega) _

theorem E_take {E : List Ent} {k : Nat} (h : k < E.length) : E.take (k + 1) = E.take k ++ [(ew E k, ep E k)] := by
  rw [List.take_succ_eq_append_getElem h, ent_at E k h]
theorem toEntryS_any (v : Value) (E : List Ent) (w : World) (hF : E.length ≤ 1048576) (hP : ∀ i, i < E.length → (ep E i).length ≤ 1048576) (h : SlE w v E) :
    Calls Tryd.prog 29 #[v] w (GaveE E w) := by
  have HW := Lib.hid h
  have HPl := Lib.hid hP
  obtain ⟨a, cap, rfl, h1, h2⟩ := h.shape
  obtain ⟨i0, hi, hz0, hz1, hz2⟩ := info_parts entInfo
  obtain ⟨w1, hmk, hown, hgrow⟩ := run_make_full (P := Tryd.prog) w w.heap.size 35 40 i0 (.agg #[.string ⟨#[]⟩, .slice none 0 0]) 2 Tryd.underlying35 hi hz0 hz1 .i64 .i64 E.length (by rw [hz2]; omega) (by unfold maxLen; omega) (Nat.le_refl _)
  have hb1 : Below w.heap.size w w1 := (Below.refl _ _).grown hgrow (Nat.le_refl _) (fun k hk => by simp at hk)
  have hsz : w.heap.size < w1.heap.size := (hown.lt _ rfl).2
  clear hi hz0 hz1 hz2 hgrow
  have HO : Hid (∃ (C : List Value) (X : List XE), C.length = E.length * 2 ∧ (∀ j, j < 0 * 2 → C[j]? = (xC X)[j]?) ∧ w1.ownsRow w.heap.size 40 2 (.slice (some ⟨w.heap.size, 0, none⟩) E.length E.length) E.length C ∧ xE X = E.take 0 ∧ PgOwn w.heap.size w1.heap.size w1 (some w.heap.size) X) := Lib.hid ⟨_, [], by simp [size_madeCells], fun j hj => by omega, hown, by simp [xE], PgOwn.nil _ _ _ _ (Nat.le_refl _)⟩
  clear hown h hP
  unfold maxLen at h2
  have HTk := Lib.hid (fun k (h : k < E.length) => E_take h)
  have HAll := Lib.hid (List.take_length (l := E))
  have HEl := Lib.hid (fun k (h : k ≤ E.length) => (List.length_take (l := E) (i := k)))
  generalize hn : E.length = n at *
  have HN := Lib.hid hn
  clear hn
  go_enter Tryd.func29, Tryd.ntmps29
  go_wp2_with fail
  go_loopw [4] (fun i wr => ∃ k : Nat, k ≤ n ∧ i = .int .i64 k ∧ Hid (Below w.heap.size w wr) ∧ w1.heap.size ≤ wr.heap.size ∧ Hid (∃ (C : List Value) (X : List XE), C.length = n * 2 ∧ (∀ j, j < k * 2 → C[j]? = (xC X)[j]?) ∧ wr.ownsRow w.heap.size 40 2 (.slice (some ⟨w.heap.size, 0, none⟩) n n) n C ∧ xE X = E.take k ∧ PgOwn w.heap.size wr.heap.size wr (some w.heap.size) X)) (fun i _ => n - (intOf i).toNat)
  case atStart => exact ⟨0, by omega, rfl, Lib.hid hb1, Nat.le_refl _, HO⟩
  case round =>
    obtain ⟨k, hk, rfl, HB, hs, HM⟩ := hrel
    by_cases hlt : k < n
    · obtain ⟨b, off, rfl, hbl, hc⟩ := HW.out.at (by omega)
      obtain ⟨vp, c0, c1, hsl⟩ := hc k hlt
      rw [← (bcell HB.out).1 _ _ hbl] at c0 c1
      have HTo := Lib.hid (toEntry_any (ew E k) vp (ep E k) wr (hsl.below HB.out) (HPl.out k hlt))
      have HT1 := Lib.hid (HTk.out k hlt)
      have HKl : Hid ((E.take k).length = k) := Lib.hid (by rw [HEl.out k hk]; omega)
      obtain ⟨av, cv, hsh⟩ := SlI.shape hsl
      subst hsh
      clear hc hsl
      generalize ew E k = s at *
      generalize ep E k = L at *
      go_wp2_with fail
      refine HTo.out.mono ?_
      rintro e w3 ⟨v3, rfl, o3, b3⟩
      have hb3 := HB.out.trans (b3.mono HB.out.size)
      have hs3 := Nat.le_trans hs b3.size
      obtain ⟨a3, c3, rfl⟩ := ownI_slice o3
      obtain ⟨C, X, hCl, hCe, hCo, hXe, hXp⟩ := HM.out
      have hCo3 : w3.ownsRow w.heap.size 40 2 (.slice (some ⟨w.heap.size, 0, none⟩) n n) n C := ((ownC_of hCo).below b3).row
      have hXl : X.length = k := by have := congrArg List.length hXe; rw [xE_len, HKl.out] at this; exact this
      have hwr : w1.heap.size ≤ wr.heap.size := hs
      obtain ⟨o0, ho0⟩ : ∃ u, C[k * 2]? = some u := ⟨_, List.getElem?_eq_getElem (by omega)⟩
      obtain ⟨o1, ho1⟩ : ∃ u, C[k * 2 + 1]? = some u := ⟨_, List.getElem?_eq_getElem (by omega)⟩
      have d0 : w3.cell? ⟨w.heap.size, k * 2, none⟩ = some o0 := (hCo3.cellAt (k * 2) (by omega)).trans ho0
      have d1 : w3.cell? ⟨w.heap.size, k * 2 + 1, none⟩ = some o1 := (hCo3.cellAt (k * 2 + 1) (by omega)).trans ho1
      have f0 : w3.frozen? ⟨w.heap.size, k * 2, none⟩ = false := hCo3.frozenAt _
      have f1 : w3.frozen? ⟨w.heap.size, k * 2 + 1, none⟩ = false := hCo3.frozenAt _
      have HS : Hid (∃ (C : List Value) (X : List XE), C.length = n * 2 ∧ (∀ j, j < (k + 1) * 2 → C[j]? = (xC X)[j]?) ∧ ((w3.setCell ⟨w.heap.size, k * 2, none⟩ (.string s)).setCell ⟨w.heap.size, k * 2 + 1, none⟩ (.slice a3 L.length c3)).ownsRow w.heap.size 40 2 (.slice (some ⟨w.heap.size, 0, none⟩) n n) n C ∧ xE X = E.take (k + 1) ∧
          PgOwn w.heap.size ((w3.setCell ⟨w.heap.size, k * 2, none⟩ (.string s)).setCell ⟨w.heap.size, k * 2 + 1, none⟩ (.slice a3 L.length c3)).heap.size ((w3.setCell ⟨w.heap.size, k * 2, none⟩ (.string s)).setCell ⟨w.heap.size, k * 2 + 1, none⟩ (.slice a3 L.length c3)) (some w.heap.size) X) := by
        obtain ⟨W4, hW4⟩ : ∃ W4, (w3.setCell ⟨w.heap.size, k * 2, none⟩ (.string s)).setCell ⟨w.heap.size, k * 2 + 1, none⟩ (.slice a3 L.length c3) = W4 := ⟨_, rfl⟩
        have hz4 : W4.heap.size = w3.heap.size := by rw [← hW4]; simp [World.setCell]
        have hoth : ∀ j, j ≠ w.heap.size → W4.heap[j]? = w3.heap[j]? := fun j hj => by rw [← hW4]; exact (Below.heap_setCell _ _ _ _ (by simpa using hj)).trans (Below.heap_setCell _ _ _ _ (by simpa using hj))
        have hr4 : W4.ownsRow w.heap.size 40 2 (.slice (some ⟨w.heap.size, 0, none⟩) n n) n ((C.set (k * 2) (.string s)).set (k * 2 + 1) (.slice a3 L.length c3)) := by
          rw [← hW4]; exact ((hCo3.stored (k * 2) (.string s)).1.stored (k * 2 + 1) (.slice a3 L.length c3)).1
        rw [hW4]
        have hp3 : PgOwn w.heap.size W4.heap.size W4 (some w.heap.size) X := (hXp.below b3).same (fun b hb => hoth b (fun e => (hXp.top b hb).2 (by rw [e]))) (by rw [hz4]; exact b3.size) (Nat.le_refl _) (fun b hb => (hXp.top b hb).2)
        have hp4 := hp3.insert X.length ((s, L), .slice a3 L.length c3) (row_same (row_low o3.row HB.out.size) (fun j hj => hoth j (fun e => by have := (o3.row.lt j hj).1; omega))) (Nat.le_refl _) (Nat.le_refl _) (fun b hb => by
          have h5 := o3.row.lt b hb
          exact ⟨by rw [hz4]; exact h5.2, fun e => by injection e with e; omega, fun hm => by have := (hXp.top b hm).1; omega⟩)
        rw [List.take_length, List.drop_length] at hp4
        refine ⟨(C.set (k * 2) (.string s)).set (k * 2 + 1) (.slice a3 L.length c3), X ++ [((s, L), .slice a3 L.length c3)], by simpa using hCl, fun j hj => ?_, hr4, by rw [HT1.out, ← hXe]; simp [xE], hp4⟩
        have hXc : (xC X).length = k * 2 := by rw [xC_len, hXl]
        rw [xC_append]
        by_cases e1 : j = k * 2 + 1
        · subst e1
          rw [List.getElem?_set_self (by simp; omega), List.getElem?_append_right (by omega), hXc, show k * 2 + 1 - k * 2 = 1 by omega]; rfl
        · rw [List.getElem?_set_ne (by omega)]
          by_cases e0 : j = k * 2
          · subst e0
            rw [List.getElem?_set_self (by omega), List.getElem?_append_right (by omega), hXc, Nat.sub_self]; rfl
          · rw [List.getElem?_set_ne (by omega), List.getElem?_append_left (by omega)]
            exact hCe j (by omega)
      have HB3 : Hid (Below w.heap.size w ((w3.setCell ⟨w.heap.size, k * 2, none⟩ (.string s)).setCell ⟨w.heap.size, k * 2 + 1, none⟩ (.slice a3 L.length c3))) := Lib.hid ((hb3.setCell (Nat.le_refl _) _).setCell (Nat.le_refl _) _)
      clear HB b3 hb3 hCe hCo hCo3 ho0 ho1 HM hCl c0 c1 o3 hXe hXp hXl HT1 HKl
      go_wp2_with fail
      go_roundw
      case rel => exact ⟨k + 1, by omega, by go_num, HB3, by simpa [World.setCell] using hs3, HS⟩
      case measure => simp [intOf]; omega
    · obtain rfl : k = n := by omega
      go_wp2_with fail
      go_ret
      obtain ⟨C, X, hCl, hCe, hCo, hXe, hXp⟩ := HM.out
      have hT : E.take k = E := HAll.out
      rw [hT] at hXe
      have hXl : X.length = k := by rw [← HN.out, ← hXe, xE_len]
      have hC : C = xC X := by
        apply List.ext_getElem?
        intro j
        by_cases hj : j < k * 2
        · exact hCe j hj
        · rw [List.getElem?_eq_none (by omega), List.getElem?_eq_none (by rw [xC_len]; omega)]
      refine ⟨_, rfl, ⟨X, hXe, by rw [HN.out, ← hC]; exact hCo, fun j hj => (hCo.lt j hj).2, hXp⟩, HB.out⟩
end Go.Proofs.YtflnbpiegcepcaaDoor

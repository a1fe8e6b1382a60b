/- The reference's ParsePages. -/
import Derived.Test.YtckmkjkckadfjaaDoorParRefS
import Derived.Test.YtckmkjkckadfjaaDoorPagS
namespace Go.Proofs.YtckmkjkckadfjaaDoor
open Go.RowKit
set_option maxHeartbeats 4000000
set_option maxRecDepth 100000
set_option linter.unusedVariables false

/-- The answer of a ParsePages: the pages in a row of the call's own, and true; or none, and false. -/
def GaveP (A : Option (List Int)) (w : World) (e : Ending) (w' : World) : Prop :=
  Below w.heap.size w w' ∧ ((∃ L v, A = some L ∧ L.length ≤ 40 ∧ e = .returned (.tuple #[v, .bool true]) ∧ OwnI w.heap.size w'.heap.size w' v L) ∨ (A = none ∧ e = .returned (.tuple #[.slice none 0 0, .bool false])))
theorem gaveP_none {w w' : World} (h : Below w.heap.size w w') : GaveP none w (.returned (.tuple #[.slice none 0 0, .bool false])) w' := ⟨h, .inr ⟨rfl, rfl⟩⟩
theorem sparse_any (s : ByteArray) (w : World) (hs : s.size ≤ 4611686018427387904) :
    Calls Tryd.prog 11 #[.string s] w (GaveP (impI s.data.toList) w) := by
  have HC := Lib.hid (parsePages_any s w hs)
  have HI := Lib.hid (spec_impI s.data.toList)
  have HV := Lib.hid (fun v x h => svalidPages_any v (specR s.data.toList) x h)
  have hF := fun v x h hOk => sformatPagesIn_any v (specR s.data.toList) x h hOk
  obtain ⟨r, hr⟩ : ∃ r : ByteArray, (⟨(txt (specR s.data.toList)).toArray⟩ : ByteArray) = r := ⟨_, rfl⟩
  have HT : Hid (r.data.toList = txt (specR s.data.toList)) := Lib.hid (by rw [← hr])
  rw [hr] at hF
  have HF := Lib.hid hF
  clear hF hr
  generalize impI s.data.toList = A at *
  generalize specR s.data.toList = L at *
  generalize txt L = tx at *
  go_enter Tryd.func11, Tryd.ntmps11
  go_wp2_with fail
  refine HC.out.mono ?_
  rintro e w1 ⟨v, rfl, hl, o1, b1⟩
  have HO : Hid (OwnI w.heap.size w1.heap.size w1 v L) := Lib.hid ⟨o1, fun k hk => (o1.lt k hk).2, Nat.le_refl _⟩
  obtain ⟨av, cv, rfl⟩ := row_shape o1
  have HB := Lib.hid b1
  clear o1 b1 HC
  by_cases h0 : s.data.toList = []
  · have hs0 : s = ⟨#[]⟩ := by
      cases s with | mk d => cases d with | mk l => simp at h0; subst h0; rfl
    subst hs0
    have hA : A = none := (by rw [HI.out, if_neg (by simp)])
    subst hA
    clear HI HV HF h0
    go_wp2_with fail
    go_ret2
    exact gaveP_none HB.out
  · have hbe : (s.toList == ([] : List UInt8)) = false := by rw [ByteArray.toList_eq]; simpa using h0
    have hs0 : s.toList.isEmpty = false := by rw [ByteArray.toList_eq]; simpa using h0
    cases hok : okPg L with
    | false =>
      have hA : A = none := (by rw [HI.out, if_neg (by simp [hok])])
      rw [hok] at HV
      subst hA
      clear HI HF h0 hok
      go_wp2_with fail
      refine (HV.out _ _ HO.out.sl).mono ?_
      rintro e w2 ⟨q, rfl, rfl⟩
      go_wp2_with fail
      go_ret2
      exact gaveP_none (below_drewN HB.out q)
    | true =>
      have h40 := (okPg_at hok).1
      have HF2 := Lib.hid (fun v x h => HF.out v x h hok)
      clear HF
      have HO2 : Hid (∀ q w3, Below (w1.drewN q).heap.size (w1.drewN q) w3 → OwnI w.heap.size w3.heap.size w3 (.slice av L.length cv) L ∧ Below w.heap.size w w3) := Lib.hid (fun q w3 b => by
        have h3 := (HO.out.drewN q).below b
        exact ⟨h3.mono (Nat.le_refl _) b.size (Nat.le_refl _), (below_drewN HB.out q).trans (b.mono HB.out.size)⟩)
      by_cases he : r.data.toList = s.data.toList
      · have hne : (r.toList == s.toList) = true := by rw [ByteArray.toList_eq, ByteArray.toList_eq]; simpa using he
        have hA : A = some L := (by rw [HI.out, if_pos ⟨h0, hok, by rw [← HT.out]; exact he⟩])
        rw [hok] at HV
        subst hA
        clear HI h0 hok he HT
        go_wp2_with fail
        refine (HV.out _ _ HO.out.sl).mono ?_
        rintro e w2 ⟨q, rfl, rfl⟩
        go_wp2_with fail
        refine (HF2.out _ _ (HO.out.sl.drewN q)).mono ?_
        rintro e w3 ⟨rfl, b3⟩
        have HF3 := Lib.hid (HO2.out q w3 b3)
        clear b3 HO2 HF2 HO HB HV
        go_wp2_with fail
        go_ret2
        exact ⟨HF3.out.2, .inl ⟨L, _, rfl, h40, rfl, HF3.out.1⟩⟩
      · have hne : (r.toList == s.toList) = false := by rw [ByteArray.toList_eq, ByteArray.toList_eq]; simpa using he
        have hA : A = none := (by rw [HI.out, if_neg (by rw [← HT.out]; exact fun h => he h.2.2)])
        rw [hok] at HV
        subst hA
        clear HI h0 hok he HT
        go_wp2_with fail
        refine (HV.out _ _ HO.out.sl).mono ?_
        rintro e w2 ⟨q, rfl, rfl⟩
        go_wp2_with fail
        refine (HF2.out _ _ (HO.out.sl.drewN q)).mono ?_
        rintro e w3 ⟨rfl, b3⟩
        have HF3 := Lib.hid (HO2.out q w3 b3)
        clear b3 HO2 HF2 HO HB HV
        go_wp2_with fail
        go_ret2
        exact gaveP_none HF3.out.2
end Go.Proofs.YtckmkjkckadfjaaDoor

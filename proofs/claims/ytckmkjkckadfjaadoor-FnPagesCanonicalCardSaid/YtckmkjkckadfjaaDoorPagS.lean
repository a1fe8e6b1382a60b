/- The reference's text of pages. -/
import Derived.Test.YtckmkjkckadfjaaDoorPag
namespace Go.Proofs.YtckmkjkckadfjaaDoor
open Go.RowKit
set_option maxHeartbeats 4000000
set_option maxRecDepth 100000
set_option linter.unusedVariables false

theorem decS_size {n : Int} (h : n ≤ 1000000000) : (⟨(dg n).toArray⟩ : ByteArray).size ≤ 21 := by
  have := dg_len h
  simpa [ByteArray.size] using this
theorem sformatInt_dg (n : Int) (w : World) (h0 : 0 ≤ n) (h1 : n ≤ 1000000000) :
    Calls Tryd.prog 36 #[.int .i64 n] w fun e w' => e = .returned (.string ⟨(dg n).toArray⟩) ∧ Below w.heap.size w w' := by
  obtain ⟨m, rfl⟩ : ∃ m : Nat, n = m := ⟨n.toNat, by omega⟩
  exact formatInt_any m m w (Nat.le_refl _) (by omega)
/-- Where the reference's loop stands: s is the text so far. -/
def At (L : List Int) (j : Nat) (s : ByteArray) : Prop := s.size ≤ 60 * j ∧ ((j = 0 ∧ s = ⟨#[]⟩) ∨ (0 < j ∧ s.data.toList ++ tl L j = txt L))
theorem At.done {L : List Int} {s : ByteArray} (h : At L L.length s) : s = ⟨(txt L).toArray⟩ := by
  obtain ⟨_, ⟨h1, rfl⟩ | ⟨h1, h2⟩⟩ := h
  · rw [txt_nil h1]
  · have : tl L L.length = [] := by unfold tl; rw [pts_end (Nat.le_refl _)]; rfl
    rw [this, List.append_nil] at h2
    exact bs_of h2
theorem At.next {L : List Int} {j : Nat} {s t : ByteArray} (h : At L j s) (hj : j < L.length) (ht : t.data.toList = s.data.toList ++ (if 0 < j then sepB else []) ++ chunk L j) (hs : t.size ≤ s.size + 60) : At L (re L j + 1) t := by
  have h0 := le_re L j
  refine ⟨by have := h.1; omega, .inr ⟨by omega, ?_⟩⟩
  obtain ⟨_, ⟨h1, rfl⟩ | ⟨h1, h2⟩⟩ := h
  · subst h1
    rw [ht, txt_chunk hj]
    simp
  · rw [ht, if_pos h1, ← h2, tl_chunk hj]
    simp

theorem sformatPagesIn_any (v : Value) (L : List Int) (w : World) (h : SlI w v L) (hOk : okPg L = true) :
    Calls Tryd.prog 22 #[v] w fun e w' => e = .returned (.string ⟨(txt L).toArray⟩) ∧ Below w.heap.size w w' := by
  have HU := Lib.hid h
  obtain ⟨a, cap, rfl, h1, h2, _⟩ := h
  unfold maxLen at h2
  obtain ⟨h40, hat⟩ := okPg_at hOk
  have HP : Hid (∀ i, pe L i = L.getD i 0) := Lib.hid (fun _ => rfl)
  have HB : Hid (∀ i, i < L.length → 0 ≤ pe L i ∧ pe L i ≤ 3999) := Lib.hid (fun i hi => ⟨by have := (hat i hi).1; omega, (hat i hi).2.1⟩)
  have HDone := Lib.hid (fun s (h : At L L.length s) => h.done)
  have HNext := Lib.hid (fun j s t (h : At L j s) => h.next (t := t))
  have HLt := Lib.hid (fun i (h : i < L.length) => re_lt h)
  have HStep := Lib.hid (fun i (h : nx L i) => re_step h)
  have HStop := Lib.hid (fun i (h : ¬ nx L i) => re_stop h)
  have HNx : Hid (∀ i, nx L i ↔ i + 1 < L.length ∧ pe L (i + 1) = pe L i + 1) := Lib.hid (fun _ => Iff.rfl)
  have HCh : Hid (∀ i, chunk L i = dg (pe L i) ++ (if re L i = i + 1 then sepB ++ dg (pe L (re L i)) else if i + 1 < re L i then [45] ++ dg (pe L (re L i)) else [])) := Lib.hid (fun _ => rfl)
  clear hat hOk
  obtain ⟨n, hn⟩ : ∃ n, L.length = n := ⟨_, rfl⟩
  rw [hn] at HU HB HDone HNext HLt HNx h40 h1 ⊢
  clear hn
  go_enter Tryd.func22, Tryd.ntmps22
  go_wp2_with fail
  go_loopw [3, 4] (fun o i wr => ∃ (j : Nat) (s : ByteArray), j ≤ n ∧ i = .int .i64 j ∧ o = .string s ∧ Hid (At L j s) ∧ Hid (Below w.heap.size w wr)) (fun _ i _ => n - (intOf i).toNat)
  case atStart => exact ⟨0, ⟨#[]⟩, by omega, rfl, rfl, Lib.hid ⟨by simp [ByteArray.size], .inl ⟨rfl, rfl⟩⟩, Lib.hid (Below.refl _ _)⟩
  case round =>
    obtain ⟨j, s, hj, rfl, rfl, HAt, HBw⟩ := hrel
    generalize wr = W at *
    by_cases hlt : j < n
    · go_wp2_with fail
      go_loopw [5] (fun k wr => ∃ t : Nat, j ≤ t ∧ t < n ∧ k = .int .i64 t ∧ Hid (re L t = re L j) ∧ ∃ q, Hid (wr = W.drewN q)) (fun k _ => n - (intOf k).toNat)
      case atStart => exact ⟨j, Nat.le_refl _, hlt, rfl, Lib.hid rfl, 0, Lib.hid rfl⟩
      case round =>
        obtain ⟨t, hjt, htn, rfl, HR, q, HQ⟩ := hrel
        have hU : SlI wr (.slice a n cap) L := by rw [HQ.out]; exact (HU.out.below HBw.out).drewN q
        obtain ⟨b, off, rfl, hbl, h4⟩ := hU.cells (by omega)
        obtain ⟨m, hm⟩ : ∃ m, t + 1 = m := ⟨_, rfl⟩
        have t1 : IntKind.i64.wrap ((t : Int) + 1) = (m : Int) := by rw [IntWalk.i64_in _ (by omega)]; omega
        have t2 : (t : Int) + 1 = (m : Int) := by omega
        have c1 := h4 t htn
        rw [← HP.out] at c1
        have hb1 := HB.out t htn
        have w1 : IntKind.i64.wrap (pe L t + 1) = pe L t + 1 := IntWalk.i64_in _ (by omega)
        have HCell : Hid (∀ i, i < n → wr.cell? ⟨b, off + i, none⟩ = some (.int .i64 (pe L i))) := Lib.hid h4
        by_cases hin : m < n
        · have hd : decide ((m : Int) < (n : Int)) = true := decide_eq_true (by omega)
          have c2 := HCell.out m hin
          by_cases hnx : pe L m = pe L t + 1
          · have HR2 : Hid (re L m = re L j) := Lib.hid (by subst hm; rw [← HStep.out t ((HNx.out t).2 ⟨hin, hnx⟩)]; exact HR.out)
            have he : (pe L m == pe L t + 1) = true := by simpa using hnx
            have HM := Lib.hid hm
            clear h4 hU hnx hb1 hm
            generalize pe L m = x at *
            generalize pe L t = y at *
            go_wp2_with fail
            go_quiet (fail)
            go_wp2_with fail
            go_roundw
            case rel => exact ⟨m, by have := HM.out; omega, by omega, by first | rfl | go_num, HR2, q + nq, Lib.hid (by rw [HQ.out, World.drewN_drewN])⟩
            case measure => have := HM.out; simp [intOf]; omega
          · have HT : Hid (t = re L j) := Lib.hid (by subst hm; rw [← HR.out, HStop.out t (fun h => hnx ((HNx.out t).1 h).2)])
            have he : (pe L m == pe L t + 1) = false := by simpa using hnx
            have HM := Lib.hid hm
            clear h4 hU hnx hb1 hm
            generalize pe L m = x at *
            generalize pe L t = y at *
            go_wp2_with fail
            go_quiet (fail)
            have HB3 : Hid (Below w.heap.size w (wr.drewN nq)) := Lib.hid (by rw [HQ.out]; exact below_drewN (below_drewN HBw.out q) nq)
            have HCell3 : Hid (∀ i, i < n → (wr.drewN nq).cell? ⟨b, off + i, none⟩ = some (.int .i64 (pe L i))) := Lib.hid HCell.out
            have hbl3 : b < (wr.drewN nq).heap.size := hbl
            generalize wr.drewN nq = W3 at *
            have hs0 : s.size ≤ 2400 := by have := HAt.out.1; omega
            clear HQ HCell HBw hbl c1 w1 t1 t2 HStep HStop HNx HR
            by_cases hj0 : 0 < j
            · have hdj : decide ((0 : Int) < (j : Int)) = true := decide_eq_true (by omega)
              have hdj2 : decide (0 < j) = true := decide_eq_true hj0
              have HS1 : Hid ((s ++ ⟨#[44, 32]⟩).data.toList = s.data.toList ++ (if 0 < j then sepB else [])) := Lib.hid (by rw [bs_app, if_pos hj0]; rfl)
              have hs1 : (s ++ ⟨#[44, 32]⟩).size ≤ s.size + 2 := by rw [ByteArray.size_append]; exact Nat.le_refl _
              have c0 := HCell3.out j hlt
              go_wp2_with fail
              generalize s ++ ⟨#[44, 32]⟩ = s1 at *
              refine (sformatInt_dg (pe L j) _ (HB.out j hlt).1 (by have := (HB.out j hlt).2; omega)).mono ?_
              rintro e w4 ⟨rfl, b4⟩
              have HB4 : Hid (Below w.heap.size w w4) := Lib.hid (HB3.out.trans (b4.mono HB3.out.size))
              have ct : w4.cell? ⟨b, off + t, none⟩ = some (.int .i64 (pe L t)) := ((bcell b4).1 _ _ hbl3).trans (HCell3.out t htn)
              have hdz : (⟨(dg (pe L j)).toArray⟩ : ByteArray).size ≤ 21 := decS_size (by have := (HB.out j hlt).2; omega)
              have HDz : Hid ((⟨(dg (pe L j)).toArray⟩ : ByteArray).data.toList = dg (pe L j)) := Lib.hid (by simp)
              generalize (⟨(dg (pe L j)).toArray⟩ : ByteArray) = d at *
              have HS2 : Hid ((s1 ++ d).data.toList = s1.data.toList ++ dg (pe L j)) := Lib.hid (by rw [bs_app, HDz.out])
              have hs2 : (s1 ++ d).size ≤ s.size + 23 := by rw [ByteArray.size_append]; omega
              clear b4 c0 HCell3 hbl3 HB3
              by_cases he1 : t = j + 1
              · have hte : ((t : Int) == (j : Int) + 1) = true := by rw [beq_iff_eq]; omega
                have HE1 := Lib.hid he1
                clear he1
                go_wp2_with fail
                generalize s1 ++ d = s2 at *
                refine (sformatInt_dg (pe L t) _ (HB.out t htn).1 (by have := (HB.out t htn).2; omega)).mono ?_
                rintro e w5 ⟨rfl, b5⟩
                have HB5 : Hid (Below w.heap.size w w5) := Lib.hid (HB4.out.trans (b5.mono HB4.out.size))
                have htz : (⟨(dg (pe L t)).toArray⟩ : ByteArray).size ≤ 21 := decS_size (by have := (HB.out t htn).2; omega)
                have HTz : Hid ((⟨(dg (pe L t)).toArray⟩ : ByteArray).data.toList = dg (pe L t)) := Lib.hid (by simp)
                generalize (⟨(dg (pe L t)).toArray⟩ : ByteArray) = d2 at *
                have hs3 : (s2 ++ ⟨#[44, 32]⟩).size ≤ s.size + 25 := by rw [ByteArray.size_append]; exact Nat.add_le_add_right hs2 2
                have hs4 : (s2 ++ ⟨#[44, 32]⟩ ++ d2).size ≤ s.size + 60 := by rw [ByteArray.size_append]; omega
                have HNew : Hid (At L (t + 1) (s2 ++ ⟨#[44, 32]⟩ ++ d2)) := Lib.hid (by
                  have hR : t = re L j := HT.out
                  rw [hR]
                  refine HNext.out j s _ HAt.out hlt ?_ hs4
                  rw [HCh.out, if_pos (show re L j = j + 1 by have := HE1.out; omega), bs_app, bs_app, HTz.out, HS2.out, HS1.out, ← hR]
                  simp [sepB])
                clear b5 ct HB4 HS2 HS1 HAt HNext HCh
                go_wp2_with fail
                go_roundw
                case rel => exact ⟨t + 1, _, by omega, by go_num, rfl, HNew, HB5⟩
                case measure => simp [intOf]; omega
              · have hte : ((t : Int) == (j : Int) + 1) = false := by rw [beq_eq_false_iff_ne]; omega
                by_cases he2 : j + 1 < t
                · have hte2 : decide ((j : Int) + 1 < (t : Int)) = true := decide_eq_true (by omega)
                  go_wp2_with fail
                  generalize s1 ++ d = s2 at *
                  refine (sformatInt_dg (pe L t) _ (HB.out t htn).1 (by have := (HB.out t htn).2; omega)).mono ?_
                  rintro e w5 ⟨rfl, b5⟩
                  have HB5 : Hid (Below w.heap.size w w5) := Lib.hid (HB4.out.trans (b5.mono HB4.out.size))
                  have htz : (⟨(dg (pe L t)).toArray⟩ : ByteArray).size ≤ 21 := decS_size (by have := (HB.out t htn).2; omega)
                  have HTz : Hid ((⟨(dg (pe L t)).toArray⟩ : ByteArray).data.toList = dg (pe L t)) := Lib.hid (by simp)
                  generalize (⟨(dg (pe L t)).toArray⟩ : ByteArray) = d2 at *
                  have hs3 : (s2 ++ ⟨#[45]⟩).size ≤ s.size + 25 := by rw [ByteArray.size_append]; exact Nat.le_trans (Nat.add_le_add_right hs2 1) (by omega)
                  have hs4 : (s2 ++ ⟨#[45]⟩ ++ d2).size ≤ s.size + 60 := by rw [ByteArray.size_append]; omega
                  have HNew : Hid (At L (t + 1) (s2 ++ ⟨#[45]⟩ ++ d2)) := Lib.hid (by
                    have hR : t = re L j := HT.out
                    rw [hR]
                    refine HNext.out j s _ HAt.out hlt ?_ hs4
                    rw [HCh.out, if_neg (show ¬ re L j = j + 1 by omega), if_pos (show j + 1 < re L j by omega), bs_app, bs_app, HTz.out, HS2.out, HS1.out, ← hR]
                    simp)
                  clear b5 ct HB4 HS2 HS1 HAt HNext HCh
                  go_wp2_with fail
                  go_roundw
                  case rel => exact ⟨t + 1, _, by omega, by go_num, rfl, HNew, HB5⟩
                  case measure => simp [intOf]; omega
                · have hte2 : decide ((j : Int) + 1 < (t : Int)) = false := decide_eq_false (by omega)
                  have HNew : Hid (At L (t + 1) (s1 ++ d)) := Lib.hid (by
                    have hR : t = re L j := HT.out
                    rw [hR]
                    refine HNext.out j s _ HAt.out hlt ?_ (by omega)
                    rw [HCh.out, if_neg (show ¬ re L j = j + 1 by omega), if_neg (show ¬ j + 1 < re L j by omega), HS2.out, HS1.out]
                    simp)
                  clear ct HS2 HS1 HAt HNext HCh
                  go_wp2_with fail
                  go_roundw
                  case rel => exact ⟨t + 1, _, by omega, by go_num, rfl, HNew, HB4⟩
                  case measure => simp [intOf]; omega
            · have hdj : decide ((0 : Int) < (j : Int)) = false := decide_eq_false (by omega)
              have hdj2 : decide (0 < j) = false := decide_eq_false hj0
              obtain ⟨s1, hse⟩ : ∃ s1, s = s1 := ⟨_, rfl⟩
              have HS1 : Hid (s1.data.toList = s.data.toList ++ (if 0 < j then sepB else [])) := Lib.hid (by rw [if_neg hj0, ← hse, List.append_nil])
              have hs1 : s1.size ≤ s.size + 2 := by rw [hse]; omega
              rw [hse]
              have hse0 := Lib.hid hse
              clear hse
              have c0 := HCell3.out j hlt
              go_wp2_with fail
              refine (sformatInt_dg (pe L j) _ (HB.out j hlt).1 (by have := (HB.out j hlt).2; omega)).mono ?_
              rintro e w4 ⟨rfl, b4⟩
              have HB4 : Hid (Below w.heap.size w w4) := Lib.hid (HB3.out.trans (b4.mono HB3.out.size))
              have ct : w4.cell? ⟨b, off + t, none⟩ = some (.int .i64 (pe L t)) := ((bcell b4).1 _ _ hbl3).trans (HCell3.out t htn)
              have hdz : (⟨(dg (pe L j)).toArray⟩ : ByteArray).size ≤ 21 := decS_size (by have := (HB.out j hlt).2; omega)
              have HDz : Hid ((⟨(dg (pe L j)).toArray⟩ : ByteArray).data.toList = dg (pe L j)) := Lib.hid (by simp)
              generalize (⟨(dg (pe L j)).toArray⟩ : ByteArray) = d at *
              have HS2 : Hid ((s1 ++ d).data.toList = s1.data.toList ++ dg (pe L j)) := Lib.hid (by rw [bs_app, HDz.out])
              have hs2 : (s1 ++ d).size ≤ s.size + 23 := by rw [ByteArray.size_append]; omega
              clear b4 c0 HCell3 hbl3 HB3
              by_cases he1 : t = j + 1
              · have hte : ((t : Int) == (j : Int) + 1) = true := by rw [beq_iff_eq]; omega
                have HE1 := Lib.hid he1
                clear he1
                go_wp2_with fail
                generalize s1 ++ d = s2 at *
                refine (sformatInt_dg (pe L t) _ (HB.out t htn).1 (by have := (HB.out t htn).2; omega)).mono ?_
                rintro e w5 ⟨rfl, b5⟩
                have HB5 : Hid (Below w.heap.size w w5) := Lib.hid (HB4.out.trans (b5.mono HB4.out.size))
                have htz : (⟨(dg (pe L t)).toArray⟩ : ByteArray).size ≤ 21 := decS_size (by have := (HB.out t htn).2; omega)
                have HTz : Hid ((⟨(dg (pe L t)).toArray⟩ : ByteArray).data.toList = dg (pe L t)) := Lib.hid (by simp)
                generalize (⟨(dg (pe L t)).toArray⟩ : ByteArray) = d2 at *
                have hs3 : (s2 ++ ⟨#[44, 32]⟩).size ≤ s.size + 25 := by rw [ByteArray.size_append]; exact Nat.add_le_add_right hs2 2
                have hs4 : (s2 ++ ⟨#[44, 32]⟩ ++ d2).size ≤ s.size + 60 := by rw [ByteArray.size_append]; omega
                have HNew : Hid (At L (t + 1) (s2 ++ ⟨#[44, 32]⟩ ++ d2)) := Lib.hid (by
                  have hR : t = re L j := HT.out
                  rw [hR]
                  refine HNext.out j s _ HAt.out hlt ?_ hs4
                  rw [HCh.out, if_pos (show re L j = j + 1 by have := HE1.out; omega), bs_app, bs_app, HTz.out, HS2.out, HS1.out, ← hR]
                  simp [sepB])
                clear b5 ct HB4 HS2 HS1 HAt HNext HCh
                go_wp2_with fail
                go_roundw
                case rel => exact ⟨t + 1, _, by omega, by go_num, rfl, HNew, HB5⟩
                case measure => simp [intOf]; omega
              · have hte : ((t : Int) == (j : Int) + 1) = false := by rw [beq_eq_false_iff_ne]; omega
                by_cases he2 : j + 1 < t
                · have hte2 : decide ((j : Int) + 1 < (t : Int)) = true := decide_eq_true (by omega)
                  go_wp2_with fail
                  generalize s1 ++ d = s2 at *
                  refine (sformatInt_dg (pe L t) _ (HB.out t htn).1 (by have := (HB.out t htn).2; omega)).mono ?_
                  rintro e w5 ⟨rfl, b5⟩
                  have HB5 : Hid (Below w.heap.size w w5) := Lib.hid (HB4.out.trans (b5.mono HB4.out.size))
                  have htz : (⟨(dg (pe L t)).toArray⟩ : ByteArray).size ≤ 21 := decS_size (by have := (HB.out t htn).2; omega)
                  have HTz : Hid ((⟨(dg (pe L t)).toArray⟩ : ByteArray).data.toList = dg (pe L t)) := Lib.hid (by simp)
                  generalize (⟨(dg (pe L t)).toArray⟩ : ByteArray) = d2 at *
                  have hs3 : (s2 ++ ⟨#[45]⟩).size ≤ s.size + 25 := by rw [ByteArray.size_append]; exact Nat.le_trans (Nat.add_le_add_right hs2 1) (by omega)
                  have hs4 : (s2 ++ ⟨#[45]⟩ ++ d2).size ≤ s.size + 60 := by rw [ByteArray.size_append]; omega
                  have HNew : Hid (At L (t + 1) (s2 ++ ⟨#[45]⟩ ++ d2)) := Lib.hid (by
                    have hR : t = re L j := HT.out
                    rw [hR]
                    refine HNext.out j s _ HAt.out hlt ?_ hs4
                    rw [HCh.out, if_neg (show ¬ re L j = j + 1 by omega), if_pos (show j + 1 < re L j by omega), bs_app, bs_app, HTz.out, HS2.out, HS1.out, ← hR]
                    simp)
                  clear b5 ct HB4 HS2 HS1 HAt HNext HCh
                  go_wp2_with fail
                  go_roundw
                  case rel => exact ⟨t + 1, _, by omega, by go_num, rfl, HNew, HB5⟩
                  case measure => simp [intOf]; omega
                · have hte2 : decide ((j : Int) + 1 < (t : Int)) = false := decide_eq_false (by omega)
                  have HNew : Hid (At L (t + 1) (s1 ++ d)) := Lib.hid (by
                    have hR : t = re L j := HT.out
                    rw [hR]
                    refine HNext.out j s _ HAt.out hlt ?_ (by omega)
                    rw [HCh.out, if_neg (show ¬ re L j = j + 1 by omega), if_neg (show ¬ j + 1 < re L j by omega), HS2.out, HS1.out]
                    simp)
                  clear ct HS2 HS1 HAt HNext HCh
                  go_wp2_with fail
                  go_roundw
                  case rel => exact ⟨t + 1, _, by omega, by go_num, rfl, HNew, HB4⟩
                  case measure => simp [intOf]; omega
        · have hd : decide ((m : Int) < (n : Int)) = false := decide_eq_false (by omega)
          have HT : Hid (t = re L j) := Lib.hid (by subst hm; rw [← HR.out, HStop.out t (fun h => hin ((HNx.out t).1 h).1)])
          have HM := Lib.hid hm
          clear h4 hU hb1 hm
          go_wp2_with fail
          go_quiet (fail)
          have HB3 : Hid (Below w.heap.size w (wr.drewN nq)) := Lib.hid (by rw [HQ.out]; exact below_drewN (below_drewN HBw.out q) nq)
          have HCell3 : Hid (∀ i, i < n → (wr.drewN nq).cell? ⟨b, off + i, none⟩ = some (.int .i64 (pe L i))) := Lib.hid HCell.out
          have hbl3 : b < (wr.drewN nq).heap.size := hbl
          generalize wr.drewN nq = W3 at *
          have hs0 : s.size ≤ 2400 := by have := HAt.out.1; omega
          clear HQ HCell HBw hbl c1 w1 t1 t2 HStep HStop HNx HR
          by_cases hj0 : 0 < j
          · have hdj : decide ((0 : Int) < (j : Int)) = true := decide_eq_true (by omega)
            have hdj2 : decide (0 < j) = true := decide_eq_true hj0
            have HS1 : Hid ((s ++ ⟨#[44, 32]⟩).data.toList = s.data.toList ++ (if 0 < j then sepB else [])) := Lib.hid (by rw [bs_app, if_pos hj0]; rfl)
            have hs1 : (s ++ ⟨#[44, 32]⟩).size ≤ s.size + 2 := by rw [ByteArray.size_append]; exact Nat.le_refl _
            have c0 := HCell3.out j hlt
            go_wp2_with fail
            generalize s ++ ⟨#[44, 32]⟩ = s1 at *
            refine (sformatInt_dg (pe L j) _ (HB.out j hlt).1 (by have := (HB.out j hlt).2; omega)).mono ?_
            rintro e w4 ⟨rfl, b4⟩
            have HB4 : Hid (Below w.heap.size w w4) := Lib.hid (HB3.out.trans (b4.mono HB3.out.size))
            have ct : w4.cell? ⟨b, off + t, none⟩ = some (.int .i64 (pe L t)) := ((bcell b4).1 _ _ hbl3).trans (HCell3.out t htn)
            have hdz : (⟨(dg (pe L j)).toArray⟩ : ByteArray).size ≤ 21 := decS_size (by have := (HB.out j hlt).2; omega)
            have HDz : Hid ((⟨(dg (pe L j)).toArray⟩ : ByteArray).data.toList = dg (pe L j)) := Lib.hid (by simp)
            generalize (⟨(dg (pe L j)).toArray⟩ : ByteArray) = d at *
            have HS2 : Hid ((s1 ++ d).data.toList = s1.data.toList ++ dg (pe L j)) := Lib.hid (by rw [bs_app, HDz.out])
            have hs2 : (s1 ++ d).size ≤ s.size + 23 := by rw [ByteArray.size_append]; omega
            clear b4 c0 HCell3 hbl3 HB3
            by_cases he1 : t = j + 1
            · have hte : ((t : Int) == (j : Int) + 1) = true := by rw [beq_iff_eq]; omega
              have HE1 := Lib.hid he1
              clear he1
              go_wp2_with fail
              generalize s1 ++ d = s2 at *
              refine (sformatInt_dg (pe L t) _ (HB.out t htn).1 (by have := (HB.out t htn).2; omega)).mono ?_
              rintro e w5 ⟨rfl, b5⟩
              have HB5 : Hid (Below w.heap.size w w5) := Lib.hid (HB4.out.trans (b5.mono HB4.out.size))
              have htz : (⟨(dg (pe L t)).toArray⟩ : ByteArray).size ≤ 21 := decS_size (by have := (HB.out t htn).2; omega)
              have HTz : Hid ((⟨(dg (pe L t)).toArray⟩ : ByteArray).data.toList = dg (pe L t)) := Lib.hid (by simp)
              generalize (⟨(dg (pe L t)).toArray⟩ : ByteArray) = d2 at *
              have hs3 : (s2 ++ ⟨#[44, 32]⟩).size ≤ s.size + 25 := by rw [ByteArray.size_append]; exact Nat.add_le_add_right hs2 2
              have hs4 : (s2 ++ ⟨#[44, 32]⟩ ++ d2).size ≤ s.size + 60 := by rw [ByteArray.size_append]; omega
              have HNew : Hid (At L (t + 1) (s2 ++ ⟨#[44, 32]⟩ ++ d2)) := Lib.hid (by
                have hR : t = re L j := HT.out
                rw [hR]
                refine HNext.out j s _ HAt.out hlt ?_ hs4
                rw [HCh.out, if_pos (show re L j = j + 1 by have := HE1.out; omega), bs_app, bs_app, HTz.out, HS2.out, HS1.out, ← hR]
                simp [sepB])
              clear b5 ct HB4 HS2 HS1 HAt HNext HCh
              go_wp2_with fail
              go_roundw
              case rel => exact ⟨t + 1, _, by omega, by go_num, rfl, HNew, HB5⟩
              case measure => simp [intOf]; omega
            · have hte : ((t : Int) == (j : Int) + 1) = false := by rw [beq_eq_false_iff_ne]; omega
              by_cases he2 : j + 1 < t
              · have hte2 : decide ((j : Int) + 1 < (t : Int)) = true := decide_eq_true (by omega)
                go_wp2_with fail
                generalize s1 ++ d = s2 at *
                refine (sformatInt_dg (pe L t) _ (HB.out t htn).1 (by have := (HB.out t htn).2; omega)).mono ?_
                rintro e w5 ⟨rfl, b5⟩
                have HB5 : Hid (Below w.heap.size w w5) := Lib.hid (HB4.out.trans (b5.mono HB4.out.size))
                have htz : (⟨(dg (pe L t)).toArray⟩ : ByteArray).size ≤ 21 := decS_size (by have := (HB.out t htn).2; omega)
                have HTz : Hid ((⟨(dg (pe L t)).toArray⟩ : ByteArray).data.toList = dg (pe L t)) := Lib.hid (by simp)
                generalize (⟨(dg (pe L t)).toArray⟩ : ByteArray) = d2 at *
                have hs3 : (s2 ++ ⟨#[45]⟩).size ≤ s.size + 25 := by rw [ByteArray.size_append]; exact Nat.le_trans (Nat.add_le_add_right hs2 1) (by omega)
                have hs4 : (s2 ++ ⟨#[45]⟩ ++ d2).size ≤ s.size + 60 := by rw [ByteArray.size_append]; omega
                have HNew : Hid (At L (t + 1) (s2 ++ ⟨#[45]⟩ ++ d2)) := Lib.hid (by
                  have hR : t = re L j := HT.out
                  rw [hR]
                  refine HNext.out j s _ HAt.out hlt ?_ hs4
                  rw [HCh.out, if_neg (show ¬ re L j = j + 1 by omega), if_pos (show j + 1 < re L j by omega), bs_app, bs_app, HTz.out, HS2.out, HS1.out, ← hR]
                  simp)
                clear b5 ct HB4 HS2 HS1 HAt HNext HCh
                go_wp2_with fail
                go_roundw
                case rel => exact ⟨t + 1, _, by omega, by go_num, rfl, HNew, HB5⟩
                case measure => simp [intOf]; omega
              · have hte2 : decide ((j : Int) + 1 < (t : Int)) = false := decide_eq_false (by omega)
                have HNew : Hid (At L (t + 1) (s1 ++ d)) := Lib.hid (by
                  have hR : t = re L j := HT.out
                  rw [hR]
                  refine HNext.out j s _ HAt.out hlt ?_ (by omega)
                  rw [HCh.out, if_neg (show ¬ re L j = j + 1 by omega), if_neg (show ¬ j + 1 < re L j by omega), HS2.out, HS1.out]
                  simp)
                clear ct HS2 HS1 HAt HNext HCh
                go_wp2_with fail
                go_roundw
                case rel => exact ⟨t + 1, _, by omega, by go_num, rfl, HNew, HB4⟩
                case measure => simp [intOf]; omega
          · have hdj : decide ((0 : Int) < (j : Int)) = false := decide_eq_false (by omega)
            have hdj2 : decide (0 < j) = false := decide_eq_false hj0
            obtain ⟨s1, hse⟩ : ∃ s1, s = s1 := ⟨_, rfl⟩
            have HS1 : Hid (s1.data.toList = s.data.toList ++ (if 0 < j then sepB else [])) := Lib.hid (by rw [if_neg hj0, ← hse, List.append_nil])
            have hs1 : s1.size ≤ s.size + 2 := by rw [hse]; omega
            rw [hse]
            have hse0 := Lib.hid hse
            clear hse
            have c0 := HCell3.out j hlt
            go_wp2_with fail
            refine (sformatInt_dg (pe L j) _ (HB.out j hlt).1 (by have := (HB.out j hlt).2; omega)).mono ?_
            rintro e w4 ⟨rfl, b4⟩
            have HB4 : Hid (Below w.heap.size w w4) := Lib.hid (HB3.out.trans (b4.mono HB3.out.size))
            have ct : w4.cell? ⟨b, off + t, none⟩ = some (.int .i64 (pe L t)) := ((bcell b4).1 _ _ hbl3).trans (HCell3.out t htn)
            have hdz : (⟨(dg (pe L j)).toArray⟩ : ByteArray).size ≤ 21 := decS_size (by have := (HB.out j hlt).2; omega)
            have HDz : Hid ((⟨(dg (pe L j)).toArray⟩ : ByteArray).data.toList = dg (pe L j)) := Lib.hid (by simp)
            generalize (⟨(dg (pe L j)).toArray⟩ : ByteArray) = d at *
            have HS2 : Hid ((s1 ++ d).data.toList = s1.data.toList ++ dg (pe L j)) := Lib.hid (by rw [bs_app, HDz.out])
            have hs2 : (s1 ++ d).size ≤ s.size + 23 := by rw [ByteArray.size_append]; omega
            clear b4 c0 HCell3 hbl3 HB3
            by_cases he1 : t = j + 1
            · have hte : ((t : Int) == (j : Int) + 1) = true := by rw [beq_iff_eq]; omega
              have HE1 := Lib.hid he1
              clear he1
              go_wp2_with fail
              generalize s1 ++ d = s2 at *
              refine (sformatInt_dg (pe L t) _ (HB.out t htn).1 (by have := (HB.out t htn).2; omega)).mono ?_
              rintro e w5 ⟨rfl, b5⟩
              have HB5 : Hid (Below w.heap.size w w5) := Lib.hid (HB4.out.trans (b5.mono HB4.out.size))
              have htz : (⟨(dg (pe L t)).toArray⟩ : ByteArray).size ≤ 21 := decS_size (by have := (HB.out t htn).2; omega)
              have HTz : Hid ((⟨(dg (pe L t)).toArray⟩ : ByteArray).data.toList = dg (pe L t)) := Lib.hid (by simp)
              generalize (⟨(dg (pe L t)).toArray⟩ : ByteArray) = d2 at *
              have hs3 : (s2 ++ ⟨#[44, 32]⟩).size ≤ s.size + 25 := by rw [ByteArray.size_append]; exact Nat.add_le_add_right hs2 2
              have hs4 : (s2 ++ ⟨#[44, 32]⟩ ++ d2).size ≤ s.size + 60 := by rw [ByteArray.size_append]; omega
              have HNew : Hid (At L (t + 1) (s2 ++ ⟨#[44, 32]⟩ ++ d2)) := Lib.hid (by
                have hR : t = re L j := HT.out
                rw [hR]
                refine HNext.out j s _ HAt.out hlt ?_ hs4
                rw [HCh.out, if_pos (show re L j = j + 1 by have := HE1.out; omega), bs_app, bs_app, HTz.out, HS2.out, HS1.out, ← hR]
                simp [sepB])
              clear b5 ct HB4 HS2 HS1 HAt HNext HCh
              go_wp2_with fail
              go_roundw
              case rel => exact ⟨t + 1, _, by omega, by go_num, rfl, HNew, HB5⟩
              case measure => simp [intOf]; omega
            · have hte : ((t : Int) == (j : Int) + 1) = false := by rw [beq_eq_false_iff_ne]; omega
              by_cases he2 : j + 1 < t
              · have hte2 : decide ((j : Int) + 1 < (t : Int)) = true := decide_eq_true (by omega)
                go_wp2_with fail
                generalize s1 ++ d = s2 at *
                refine (sformatInt_dg (pe L t) _ (HB.out t htn).1 (by have := (HB.out t htn).2; omega)).mono ?_
                rintro e w5 ⟨rfl, b5⟩
                have HB5 : Hid (Below w.heap.size w w5) := Lib.hid (HB4.out.trans (b5.mono HB4.out.size))
                have htz : (⟨(dg (pe L t)).toArray⟩ : ByteArray).size ≤ 21 := decS_size (by have := (HB.out t htn).2; omega)
                have HTz : Hid ((⟨(dg (pe L t)).toArray⟩ : ByteArray).data.toList = dg (pe L t)) := Lib.hid (by simp)
                generalize (⟨(dg (pe L t)).toArray⟩ : ByteArray) = d2 at *
                have hs3 : (s2 ++ ⟨#[45]⟩).size ≤ s.size + 25 := by rw [ByteArray.size_append]; exact Nat.le_trans (Nat.add_le_add_right hs2 1) (by omega)
                have hs4 : (s2 ++ ⟨#[45]⟩ ++ d2).size ≤ s.size + 60 := by rw [ByteArray.size_append]; omega
                have HNew : Hid (At L (t + 1) (s2 ++ ⟨#[45]⟩ ++ d2)) := Lib.hid (by
                  have hR : t = re L j := HT.out
                  rw [hR]
                  refine HNext.out j s _ HAt.out hlt ?_ hs4
                  rw [HCh.out, if_neg (show ¬ re L j = j + 1 by omega), if_pos (show j + 1 < re L j by omega), bs_app, bs_app, HTz.out, HS2.out, HS1.out, ← hR]
                  simp)
                clear b5 ct HB4 HS2 HS1 HAt HNext HCh
                go_wp2_with fail
                go_roundw
                case rel => exact ⟨t + 1, _, by omega, by go_num, rfl, HNew, HB5⟩
                case measure => simp [intOf]; omega
              · have hte2 : decide ((j : Int) + 1 < (t : Int)) = false := decide_eq_false (by omega)
                have HNew : Hid (At L (t + 1) (s1 ++ d)) := Lib.hid (by
                  have hR : t = re L j := HT.out
                  rw [hR]
                  refine HNext.out j s _ HAt.out hlt ?_ (by omega)
                  rw [HCh.out, if_neg (show ¬ re L j = j + 1 by omega), if_neg (show ¬ j + 1 < re L j by omega), HS2.out, HS1.out]
                  simp)
                clear ct HS2 HS1 HAt HNext HCh
                go_wp2_with fail
                go_roundw
                case rel => exact ⟨t + 1, _, by omega, by go_num, rfl, HNew, HB4⟩
                case measure => simp [intOf]; omega
    · obtain rfl : j = n := by omega
      have HE := HDone.out s HAt.out
      subst HE
      clear HAt HDone HNext HLt HStep HStop HNx HCh
      go_wp2_with fail
      go_ret
      exact ⟨rfl, HBw.out⟩

theorem sformatPages_any (v : Value) (L : List Int) (w : World) (h : SlI w v L) :
    Calls Tryd.prog 8 #[v] w fun e w' => e = .returned (.string (fmtP L)) ∧ Below w.heap.size w w' := by
  have HV := Lib.hid (svalidPages_any v L w h)
  have HF := Lib.hid (fun q hOk => sformatPagesIn_any v L (w.drewN q) (h.drewN q) hOk)
  have HG : Hid (fmtP L = if okPg L = true then ⟨(txt L).toArray⟩ else ⟨#[]⟩) := Lib.hid rfl
  obtain ⟨a, c, rfl, _, _, _⟩ := h
  generalize (⟨(txt L).toArray⟩ : ByteArray) = s at *
  generalize fmtP L = r at *
  cases hb : okPg L with
  | false =>
    rw [hb] at HV HG
    have hr := HG.out
    rw [if_neg (by simp)] at hr
    subst hr
    clear HF HG
    go_enter Tryd.func8, Tryd.ntmps8
    go_wp2_with fail
    refine HV.out.mono ?_
    rintro e w1 ⟨q, rfl, rfl⟩
    go_wp2_with fail
    go_ret
    exact ⟨rfl, below_drewN (Below.refl _ _) q⟩
  | true =>
    rw [hb] at HV HG
    have hr := HG.out
    rw [if_pos rfl] at hr
    subst hr
    have HF2 := Lib.hid (fun q => HF.out q hb)
    clear HF HG
    go_enter Tryd.func8, Tryd.ntmps8
    go_wp2_with fail
    refine HV.out.mono ?_
    rintro e w1 ⟨q, rfl, rfl⟩
    go_wp2_with fail
    refine (HF2.out q).mono ?_
    rintro e w2 ⟨rfl, b2⟩
    go_wp2_with fail
    go_ret
    exact ⟨rfl, (below_drewN (Below.refl _ _) q).trans b2⟩
end Go.Proofs.YtckmkjkckadfjaaDoor

/- The drawn texts of pages; the laws of ParsePages over draws. -/
import Derived.Test.YtckmkjkckadfjaaDoorParX
import Derived.Test.YtckmkjkckadfjaaDoorDrawNum
namespace Go.Proofs.YtckmkjkckadfjaaDoor
open Go.RowKit
set_option maxHeartbeats 4000000
set_option maxRecDepth 100000
set_option linter.unusedVariables false

theorem fmtP_size (L : List Int) : (fmtP L).size ≤ 3000 := by
  unfold fmtP
  split
  · rename_i h
    simpa [ByteArray.size] using txt_len h
  · simp [ByteArray.size]
def DrewS (m : Nat) (w : World) (e : Ending) (w' : World) : Prop := ∃ s : ByteArray, s.size ≤ m ∧ e = .returned (.string s) ∧ Below w.heap.size w w'
theorem drawParsePages_any (a : Option Addr) (len cap : Nat) (zs : List Int) (w : World) (h : RowIn .u8 w a len cap zs) :
    Calls Tryd.prog 15 #[.slice a len cap] w (DrewS 4000 w) := by
  have HR := Lib.hid h; clear h
  go_enter Tryd.func15, Tryd.ntmps15
  go_wp2_with fail
  refine (newReader_any a len cap zs _ HR.out).mono ?_
  rintro e w1 ⟨rfl, hR, hb⟩
  have HB := Lib.hid hb
  clear hb
  obtain ⟨rb, hrb⟩ : ∃ rb, w.heap.size = rb := ⟨_, rfl⟩
  rw [hrb] at hR HB ⊢
  have HRb := Lib.hid hrb
  clear hrb
  go_wp2_with fail
  refine (someNumbers_any rb 0 w1 (by omega) hR).mono ?_
  rintro e w2 ⟨v, L, hL, rfl, ho, hR2, hk⟩
  have HK2 := Lib.hid hk
  have hv := ho.sl
  clear hk ho hR
  go_wp2_with fail
  refine (sformatPages_any v L w2 hv).mono ?_
  rintro e w3 ⟨rfl, b3⟩
  have HR3 := Lib.hid (hR2.below b3)
  have HB3 : Hid (Below rb w w3) := Lib.hid (HB.out.trans (HK2.out.below.trans (b3.mono (Nat.le_of_lt hR2.lies))))
  have hfz := fmtP_size L
  generalize fmtP L = s at *
  clear hv b3 hR2 HK2 HB
  go_wp2_with fail
  refine (pick_pos rb (0 + 20) 5 _ (by omega) (by omega) HR3.out).mono ?_
  rintro e w4 ⟨x, hx, rfl, hR4, hK4⟩
  have HB4 : Hid (Below rb w w4) := Lib.hid (HB3.out.trans hK4.below)
  have HR4 := Lib.hid hR4
  clear hK4 hR4 HB3 HR3
  by_cases hx0 : x = 0
  · subst hx0
    go_wp2_with fail
    refine (mutate_any rb (0 + 20 + 1) s _ (by omega) HR4.out (by omega)).mono ?_
    rintro e w5 ⟨t, ht, rfl, _, hK5⟩
    have HF : Hid (DrewS 4000 w (.returned (.string t)) w5) := Lib.hid ⟨t, by omega, rfl, by rw [HRb.out]; exact HB4.out.trans hK5.below⟩
    clear hK5 HB4 HR4
    go_wp2_with fail
    go_ret
    exact HF.out
  · have hxe : ((x : Int) == 0) = false := by simpa using hx0
    by_cases hx1 : x = 1
    · subst hx1
      go_wp2_with fail
      refine (of_new rb (0 + 20 + 1) [⟨#[]⟩, ⟨#[49, 45, 50]⟩, ⟨#[49, 45, 51]⟩, ⟨#[51, 45, 49]⟩, ⟨#[49, 44, 32, 50, 44, 32, 51]⟩, ⟨#[49, 44, 50]⟩, ⟨#[53]⟩, ⟨#[49, 45, 51, 44, 32, 52]⟩, ⟨#[48]⟩, ⟨#[49, 45, 51, 57, 57, 57]⟩] 10 7 _ rfl (by omega) (by omega) (by omega) HR4.out (by decide) _).mono ?_
      rintro e w5 ⟨t, ht, rfl, _, hK5⟩
      have HF : Hid (DrewS 4000 w (.returned (.string t)) w5) := Lib.hid ⟨t, by omega, rfl, by rw [HRb.out]; exact HB4.out.trans hK5.below⟩
      clear hK5 HB4 HR4
      go_wp2_with fail
      go_ret
      exact HF.out
    · have hxe1 : ((x : Int) == 1) = false := by rw [beq_eq_false_iff_ne]; omega
      have HF : Hid (DrewS 4000 w (.returned (.string s)) w4) := Lib.hid ⟨s, by omega, rfl, by rw [HRb.out]; exact HB4.out⟩
      clear HB4 HR4
      go_wp2_with fail
      go_ret
      exact HF.out

theorem pagesText_law (a : Option Addr) (len cap : Nat) (zs : List Int) (w : World) (h : RowIn .u8 w a len cap zs) (hD : DoorV w) :
    Calls Tryd.prog 3 #[.slice a len cap] w fun e w' => e = .returned (.bool true) ∧ Below w.heap.size w w' := by
  have hm := h.len_le.1
  unfold maxLen at hm
  by_cases hl : 1048576 < len
  · clear h hD
    go_enter Tryd.func3, Tryd.ntmps3
    go_wp2
    go_ret
    exact ⟨rfl, Below.refl _ _⟩
  · have HDr := Lib.hid (drawFormatPages_any a len cap zs w h)
    have HD := Lib.hid hD
    clear h hD
    go_enter Tryd.func3, Tryd.ntmps3
    go_wp2_with fail
    refine HDr.out.mono ?_
    rintro e w1 ⟨v, L, hL, rfl, hv, b1⟩
    have HI := Lib.hid (formatPages_any v L w1 hv (HD.out.below b1).tab)
    have HS := Lib.hid (fun x (hb : Below w1.heap.size w1 x) => sformatPages_any v L x (hv.below hb))
    have HV := Lib.hid (fun x (hb : Below w1.heap.size w1 x) => hv.below hb)
    have HB1 := Lib.hid b1
    have HP : Hid (fmtP L ≠ ⟨#[]⟩ → ∀ x, Below w1.heap.size w1 x → Calls Tryd.prog 9 #[.string (fmtP L)] x (GaveA L true x)) := Lib.hid (fun hne x hb => by
      have hb2 := HB1.out.trans (hb.mono HB1.out.size)
      have hd := HD.out.below hb2
      have hok : okPg L = true := by
        cases ho : okPg L with
        | true => rfl
        | false => exact absurd (by unfold fmtP; rw [ho]; rfl) hne
      have hf : fmtP L = ⟨(txt L).toArray⟩ := by unfold fmtP; rw [if_pos hok]
      have hn : L ≠ [] := by
        rintro rfl
        apply hne
        rw [hf, txt_nil rfl]
      have := (parse_any (fmtP L) x (by have := fmtP_size L; omega) hd.err hd.max hd.tab).mono (fun e w2 h => h.all)
      rw [show impI (fmtP L).data.toList = some L by rw [hf]; simpa using impI_txt hok hn] at this
      exact this)
    obtain ⟨s, hs⟩ : ∃ s, fmtP L = s := ⟨_, rfl⟩
    rw [hs] at HI HP
    simp only [hs] at HS
    clear hs hv b1 HDr HD
    go_wp2_with fail
    refine HI.out.mono ?_
    rintro e w2 ⟨rfl, b2⟩
    have HB2 := Lib.hid b2
    clear b2 HI
    have hss : (s.toList == s.toList) = true := by simp
    by_cases he : s = ⟨#[]⟩
    · have hse : (s.toList == ([] : List UInt8)) = true := by rw [he, ByteArray.toList_eq]; rfl
      have hs0 : s.toList.isEmpty = true := by rw [he, ByteArray.toList_eq]; rfl
      clear he
      go_wp2_with fail
      refine (HS.out _ HB2.out).mono ?_
      rintro e w3 ⟨rfl, b3⟩
      have HB3 : Hid (Below w1.heap.size w1 w3) := Lib.hid (HB2.out.trans (b3.mono HB2.out.size))
      clear b3 HB2
      go_wp2_with fail
      refine (HS.out _ HB3.out).mono ?_
      rintro e w4 ⟨rfl, b4⟩
      have HB4 : Hid (Below w1.heap.size w1 w4) := Lib.hid (HB3.out.trans (b4.mono HB3.out.size))
      clear b4 HB3
      go_wp2_with fail
      go_ret
      exact ⟨rfl, HB1.out.trans (HB4.out.mono HB1.out.size)⟩
    · have hne : s.data.toList ≠ [] := fun e => he (bs_of e)
      have hse : (s.toList == ([] : List UInt8)) = false := by rw [ByteArray.toList_eq]; simpa using hne
      have hs0 : s.toList.isEmpty = false := by rw [ByteArray.toList_eq]; simpa using hne
      have HP2 := Lib.hid (HP.out he)
      clear he hne HP
      go_wp2_with fail
      refine (HS.out _ HB2.out).mono ?_
      rintro e w3 ⟨rfl, b3⟩
      have HB3 : Hid (Below w1.heap.size w1 w3) := Lib.hid (HB2.out.trans (b3.mono HB2.out.size))
      clear b3 HB2
      go_wp2_with fail
      refine (HP2.out _ HB3.out).mono ?_
      rintro e w4 ⟨u, rfl, hu, b4⟩
      have HB4 : Hid (Below w1.heap.size w1 w4) := Lib.hid (HB3.out.trans (b4.mono HB3.out.size))
      have hv4 := HV.out _ HB4.out
      have HE : Hid (Calls Tryd.prog 10 #[u, v] w4 (Same w4 true)) := Lib.hid (by have := equalInts_any u v L L w4 hu.sl hv4; rwa [decide_eq_true (rfl : L = L)] at this)
      clear b4 HB3 hu hv4 HV
      go_wp2_with fail
      refine HE.out.mono ?_
      rintro e w5 ⟨q, rfl, rfl⟩
      go_wp2_with fail
      go_ret
      exact ⟨rfl, bel_drewN (HB1.out.trans (HB4.out.mono HB1.out.size)) q⟩

theorem pagesCanonical_law (a : Option Addr) (len cap : Nat) (zs : List Int) (w : World) (h : RowIn .u8 w a len cap zs) (hD : DoorV w) :
    Calls Tryd.prog 5 #[.slice a len cap] w fun e w' => e = .returned (.bool true) ∧ Below w.heap.size w w' := by
  have hm := h.len_le.1
  unfold maxLen at hm
  by_cases hl : 1048576 < len
  · clear h hD
    go_enter Tryd.func5, Tryd.ntmps5
    go_wp2
    go_ret
    exact ⟨rfl, Below.refl _ _⟩
  · have HDr := Lib.hid (drawParsePages_any a len cap zs w h)
    have HD := Lib.hid hD
    clear h hD
    go_enter Tryd.func5, Tryd.ntmps5
    go_wp2_with fail
    refine HDr.out.mono ?_
    rintro e w1 ⟨s, hs, rfl, b1⟩
    have HB1 := Lib.hid b1
    have HI := Lib.hid (fun x (hb : Below w1.heap.size w1 x) => (parse_any s x (by omega) ((HD.out.below b1).below hb).err ((HD.out.below b1).below hb).max ((HD.out.below b1).below hb).tab).mono (fun e w2 h => h.all))
    have HS := Lib.hid (fun x => (sparse_any s x (by omega)).mono (fun e w2 h => h.all))
    have HT := Lib.hid (fun x (hb : Below w1.heap.size w1 x) => ((HD.out.below b1).below hb).tab)
    clear HDr HD b1
    have HE := Lib.hid (fun (u v : Value) (L : List Int) (x : World) (hu : SlI x u L) (hv : SlI x v L) => (show Calls Tryd.prog 10 #[u, v] x (Same x true) by have := equalInts_any u v L L x hu hv; rwa [decide_eq_true (rfl : L = L)] at this))
    cases hA : impI s.data.toList with
    | none =>
      rw [hA] at HI HS
      simp only [Option.getD, Option.isSome] at HI HS
      clear hA HT
      go_wp2_with fail
      refine (HI.out _ (Below.refl _ _)).mono ?_
      rintro e w2 ⟨u, rfl, hu, b2⟩
      have HB2 := Lib.hid b2
      have HU := Lib.hid hu.sl
      clear hu b2
      go_wp2_with fail
      refine (HS.out _).mono ?_
      rintro e w3 ⟨v, rfl, hv, b3⟩
      have HB3 : Hid (Below w1.heap.size w1 w3) := Lib.hid (HB2.out.trans (b3.mono HB2.out.size))
      have HU3 := Lib.hid (HU.out.below b3)
      have HV3 := Lib.hid hv.sl
      clear hv b3 HB2 HU HI HS
      go_wp2_with fail
      refine (HE.out _ _ _ _ HU3.out HV3.out).mono ?_
      rintro e w4 ⟨q, rfl, rfl⟩
      go_wp2_with fail
      refine (HE.out _ _ _ _ (HU3.out.drewN q) (HV3.out.drewN q)).mono ?_
      rintro e w5 ⟨q2, rfl, rfl⟩
      go_wp2_with fail
      go_ret
      exact ⟨rfl, bel_drewN (HB1.out.trans (HB3.out.mono HB1.out.size)) (q + q2)⟩
    | some L =>
      obtain ⟨hok, hne, htx⟩ := impI_some hA
      have hfm : fmtP L = s := by
        unfold fmtP
        rw [if_pos hok, htx]
      rw [hA] at HI HS
      simp only [Option.getD, Option.isSome] at HI HS
      have hpos : 0 < L.length := List.length_pos_iff.2 hne
      have hd : decide ((0 : Int) < (L.length : Int)) = true := decide_eq_true (by omega)
      have hss : (s.toList == s.toList) = true := by simp
      have HF : Hid (∀ u x, Below w1.heap.size w1 x → SlI x u L → Calls Tryd.prog 7 #[u] x fun e w' => e = .returned (.string s) ∧ Below x.heap.size x w') := Lib.hid (fun u x hb hu => by rw [← hfm]; exact formatPages_any u L x hu (HT.out x hb))
      clear hA hok hne htx hfm HT
      go_wp2_with fail
      refine (HI.out _ (Below.refl _ _)).mono ?_
      rintro e w2 ⟨u, rfl, hu, b2⟩
      have HB2 := Lib.hid b2
      have HU := Lib.hid hu.sl
      obtain ⟨au, cu, rfl⟩ := row_shape hu.row
      clear hu b2
      go_wp2_with fail
      refine (HS.out _).mono ?_
      rintro e w3 ⟨v, rfl, hv, b3⟩
      have HB3 : Hid (Below w1.heap.size w1 w3) := Lib.hid (HB2.out.trans (b3.mono HB2.out.size))
      have HU3 := Lib.hid (HU.out.below b3)
      have HV3 := Lib.hid hv.sl
      clear hv b3 HB2 HU HI HS
      go_wp2_with fail
      refine (HE.out _ _ _ _ HU3.out HV3.out).mono ?_
      rintro e w4 ⟨q, rfl, rfl⟩
      have HB4 : Hid (Below w1.heap.size w1 (w3.drewN q)) := Lib.hid (bel_drewN HB3.out q)
      go_wp2_with fail
      refine (HF.out _ _ HB4.out (HU3.out.drewN q)).mono ?_
      rintro e w5 ⟨rfl, b5⟩
      have HB5 : Hid (Below w1.heap.size w1 w5) := Lib.hid (HB4.out.trans (b5.mono HB4.out.size))
      clear b5
      go_wp2_with fail
      go_ret
      exact ⟨rfl, HB1.out.trans (HB5.out.mono HB1.out.size)⟩
end Go.Proofs.YtckmkjkckadfjaaDoor

/- The laws over Roman numerals: each holds for every code. -/
import Derived.Test.YtjjimcdpeofddaaDoorSFromRoman
import Derived.Test.YtjjimcdpeofddaaDoorMutate
namespace Go.Proofs.YtjjimcdpeofddaaDoor
open Go.RowKit
set_option maxHeartbeats 400000

theorem drawRoman_any (a : Option Addr) (len cap : Nat) (zs : List Int) (w : World) (h : RowIn .u8 w a len cap zs) :
    Calls Tryd.prog 12 #[.slice a len cap] w (DrawnIn (-1) 4000 w) := by
  have HR := Lib.hid h; clear h
  go_enter Tryd.func12, Tryd.ntmps12
  go_wp2_with fail
  refine (newReader_any a len cap zs _ HR.out).mono ?_
  rintro e w1 ⟨rfl, hR, hb⟩
  go_wp2_with fail
  refine (someNumber_any w.heap.size 0 _ (by omega) hR).mono ?_
  rintro e w2 ⟨v, h1, h2, rfl, hR2, hK⟩
  have HB : Hid (Below w.heap.size w w2) := hb.trans hK.below
  clear hb hK hR hR2
  go_wp2_with fail
  go_ret
  exact ⟨v, h1, h2, rfl, HB.out⟩
theorem romS_no (n : Int) (h : ¬ (1 ≤ n ∧ n ≤ 3999)) : romS n = [] := if_neg h
theorem romS_ne (n : Int) (h : 1 ≤ n ∧ n ≤ 3999) : romS n ≠ [] := by
  unfold romS
  rw [if_pos h]
  exact romF_ne _ (by omega) (by omega)
theorem romS_len (n : Int) : (⟨(romS n).toArray⟩ : ByteArray).size ≤ 15 := by
  show (romS n).toArray.size ≤ 15
  rw [List.size_toArray]
  unfold romS
  split
  · exact (parse_rom n.toNat (by omega)).2.2
  · simp

theorem romanThousand_walk (a : Option Addr) (len cap : Nat) (zs : List Int) (w : World) (h : RowIn .u8 w a len cap zs) (hL : Laid0 w) :
    Calls Tryd.prog 4 #[.slice a len cap] w fun e w' => e = .returned (.bool true) ∧ Below w.heap.size w w' := by
  have hm := h.len_le.1
  unfold maxLen at hm
  have HR := Lib.hid h; clear h
  by_cases hl : 1048576 < len
  · go_enter Tryd.func4, Tryd.ntmps4
    go_wp2
    go_ret
    exact ⟨rfl, Below.refl _ _⟩
  · go_enter Tryd.func4, Tryd.ntmps4
    go_wp2_with fail
    refine (drawRoman_any a len cap zs _ HR.out).mono ?_
    rintro e w1 ⟨v, h1, h2, rfl, hb⟩
    have L1 := hL.below hb
    go_wp2_with fail
    refine (roman_any v _ L1).mono ?_
    rintro e w2 ⟨rfl, hb2⟩
    have B2 := hb.trans (hb2.mono hb.size)
    go_wp2_with fail
    refine (sroman_any v _).mono ?_
    rintro e w3 ⟨rfl, hb3⟩
    have B3 := B2.trans (hb3.mono B2.size)
    have L3 := hL.below B3
    by_cases hin : 1 ≤ v ∧ v ≤ 3999
    · have hE : (romS v).isEmpty = false := by simpa using romS_ne v hin
      by_cases hv : 3999 < v + 1000
      · go_wp2_with fail
        refine (sroman_any v _).mono ?_
        rintro e w4 ⟨rfl, hb4⟩
        go_wp2_with fail
        go_ret
        exact ⟨rfl, B3.trans (hb4.mono B3.size)⟩
      · have ht := romS_thousand v hin.1 (by omega)
        go_wp2_with fail
        refine (roman_any (v + 1000) _ L3).mono ?_
        rintro e w4 ⟨rfl, hb4⟩
        rw [ht]
        have hcat : (⟨#[109]⟩ ++ ⟨(romS v).toArray⟩ : ByteArray) = ⟨(109 :: romS v).toArray⟩ := by
          rw [show (⟨#[109]⟩ : ByteArray) = ⟨[109].toArray⟩ from rfl, str_append]; simp
        have hlen : (romS v).length ≤ 15 := by
          have h : (romS v).toArray.size ≤ 15 := romS_len v
          simpa using h
        generalize romS v = l at *
        clear ht
        go_wp2_with fail
        go_ret
        exact ⟨rfl, B3.trans (hb4.mono B3.size)⟩
    · have hE : (romS v).isEmpty = true := by rw [romS_no v hin]; rfl
      go_wp2_with fail
      refine (sroman_any v _).mono ?_
      rintro e w4 ⟨rfl, hb4⟩
      go_wp2_with fail
      go_ret
      exact ⟨rfl, B3.trans (hb4.mono B3.size)⟩

theorem romanRoundTrip_walk (a : Option Addr) (len cap : Nat) (zs : List Int) (w : World) (h : RowIn .u8 w a len cap zs) (hL : Laid0 w) :
    Calls Tryd.prog 6 #[.slice a len cap] w fun e w' => e = .returned (.bool true) ∧ Below w.heap.size w w' := by
  have hm := h.len_le.1
  unfold maxLen at hm
  have HR := Lib.hid h; clear h
  by_cases hl : 1048576 < len
  · go_enter Tryd.func6, Tryd.ntmps6
    go_wp2
    go_ret
    exact ⟨rfl, Below.refl _ _⟩
  · go_enter Tryd.func6, Tryd.ntmps6
    go_wp2_with fail
    refine (drawRoman_any a len cap zs _ HR.out).mono ?_
    rintro e w1 ⟨v, h1, h2, rfl, hb⟩
    have L1 := hL.below hb
    go_wp2_with fail
    refine (roman_any v _ L1).mono ?_
    rintro e w2 ⟨rfl, hb2⟩
    have B2 := hb.trans (hb2.mono hb.size)
    go_wp2_with fail
    refine (sroman_any v _).mono ?_
    rintro e w3 ⟨rfl, hb3⟩
    have B3 := B2.trans (hb3.mono B2.size)
    have L3 := hL.below B3
    by_cases hin : 1 ≤ v ∧ v ≤ 3999
    · have hE : (romS v).isEmpty = false := by simpa using romS_ne v hin
      have H := Lib.hid (okR_rom v hin)
      have HS : Hid ((⟨(romS v).toArray⟩ : ByteArray).size ≤ maxLen) := Lib.hid (by have := romS_len v; unfold maxLen; omega)
      go_wp2_with fail
      refine (fromRoman_any ⟨(romS v).toArray⟩ _ HS.out L3).mono ?_
      rintro e w4 ⟨rfl, hb4⟩
      simp only [H.out.1, H.out.2]
      go_wp2_with fail
      go_ret
      exact ⟨rfl, B3.trans (hb4.mono B3.size)⟩
    · have hE : (romS v).isEmpty = true := by rw [romS_no v hin]; rfl
      go_wp2_with fail
      refine (sroman_any v _).mono ?_
      rintro e w4 ⟨rfl, hb4⟩
      go_wp2_with fail
      go_ret
      exact ⟨rfl, B3.trans (hb4.mono B3.size)⟩

def DrawnText (n : Nat) (w : World) (e : Ending) (w' : World) : Prop := ∃ s : ByteArray, s.size ≤ n ∧ e = .returned (.string s) ∧ Below w.heap.size w w'
theorem drawFromRoman_any (a : Option Addr) (len cap : Nat) (zs : List Int) (w : World) (h : RowIn .u8 w a len cap zs) :
    Calls Tryd.prog 15 #[.slice a len cap] w (DrawnText 40 w) := by
  have HR := Lib.hid h; clear h
  go_enter Tryd.func15, Tryd.ntmps15
  go_wp2_with fail
  refine (newReader_any a len cap zs _ HR.out).mono ?_
  rintro e w1 ⟨rfl, hR, hb⟩
  go_wp2_with fail
  refine (someNumber_any w.heap.size 0 _ (by omega) hR).mono ?_
  rintro e w2 ⟨v, h1, h2, rfl, hR2, hK⟩
  have B2 : Below w.heap.size w w2 := hb.trans hK.below
  clear hb hK hR
  go_wp2_with fail
  refine (sroman_any v _).mono ?_
  rintro e w3 ⟨rfl, hb3⟩
  have hR3 := hR2.below hb3
  have B3 : Below w.heap.size w w3 := B2.trans (hb3.mono B2.size)
  have hsz := romS_len v
  clear hR2 hb3 B2
  generalize (⟨(romS v).toArray⟩ : ByteArray) = s at *
  go_wp2_with fail
  refine (pick_pos w.heap.size (0 + 3) 5 _ (by omega) (by omega) hR3).mono ?_
  rintro e w4 ⟨c, hc, rfl, hR4, hK4⟩
  have B4 : Below w.heap.size w w4 := B3.trans hK4.below
  clear hK4 hR3 B3
  by_cases h0 : c = 0
  · subst h0
    go_wp2_with fail
    refine (mutate_any w.heap.size (0 + 3 + 1) s _ (by omega) hR4 (by omega)).mono ?_
    rintro e w5 ⟨t, ht, rfl, hR5, hK5⟩
    have B5 : Below w.heap.size w w5 := B4.trans hK5.below
    go_wp2_with fail
    go_ret
    exact ⟨t, by omega, rfl, B5⟩
  · by_cases h1 : c = 1
    · subst h1
      go_wp2_with fail
      refine (of_new w.heap.size (0 + 3 + 1) [⟨#[105]⟩, ⟨#[120]⟩, ⟨#[109]⟩, ⟨#[105, 118]⟩] 4 2 _ rfl (by omega) (by omega) (by omega) hR4 (by decide) _).mono ?_
      rintro e w5 ⟨t, ht, rfl, hR5, hK5⟩
      have B5 : Below w.heap.size w w5 := B4.trans hK5.below
      have HZ : Hid ((s ++ t).size ≤ 40) := by simp only [ByteArray.size_append]; exact Nat.le_trans (Nat.add_le_add hsz ht) (by decide)
      go_wp2_with fail
      go_ret
      exact ⟨_, HZ.out, rfl, B5⟩
    · have e0 : ((c : Int) == 0) = false := by simp; omega
      have e1 : ((c : Int) == 1) = false := by simp; omega
      go_wp2_with fail
      go_ret
      exact ⟨s, by omega, rfl, B4⟩

theorem romanCanonical_walk (a : Option Addr) (len cap : Nat) (zs : List Int) (w : World) (h : RowIn .u8 w a len cap zs) (hL : Laid0 w) :
    Calls Tryd.prog 7 #[.slice a len cap] w fun e w' => e = .returned (.bool true) ∧ Below w.heap.size w w' := by
  have hm := h.len_le.1
  unfold maxLen at hm
  have HR := Lib.hid h; clear h
  by_cases hl : 1048576 < len
  · go_enter Tryd.func7, Tryd.ntmps7
    go_wp2
    go_ret
    exact ⟨rfl, Below.refl _ _⟩
  · go_enter Tryd.func7, Tryd.ntmps7
    go_wp2_with fail
    refine (drawFromRoman_any a len cap zs _ HR.out).mono ?_
    rintro e w1 ⟨s, hs, rfl, hb⟩
    have HS : Hid (s.size ≤ maxLen) := by unfold maxLen; exact Lib.hid (by omega)
    have L1 := hL.below hb
    go_wp2_with fail
    refine (fromRoman_any s _ HS.out L1).mono ?_
    rintro e w2 ⟨rfl, hb2⟩
    have B2 := hb.trans (hb2.mono hb.size)
    go_wp2_with fail
    refine (sfromRoman_any s _ HS.out).mono ?_
    rintro e w3 ⟨rfl, hb3⟩
    have B3 := B2.trans (hb3.mono B2.size)
    have L3 := hL.below B3
    have HC := Lib.hid (okR_num s.data.toList)
    generalize numR s.data.toList = n at *
    cases ho : okR s.data.toList with
    | true =>
      have HE := Lib.hid (HC.out ho)
      have hn1 := HE.out.2.1
      have hn2 := HE.out.2.2.1
      clear HC
      go_wp2_with fail
      refine (roman_any n _ L3).mono ?_
      rintro e w4 ⟨rfl, hb4⟩
      simp only [HE.out.2.2.2, Array.toArray_toList]
      have hle : decide (1 ≤ n) = true := by simpa using hn1
      have hle2 : decide (n ≤ 3999) = true := by simpa using hn2
      go_wp2_with fail
      go_ret
      exact ⟨rfl, B3.trans (hb4.mono B3.size)⟩
    | false =>
      go_wp2_with fail
      go_ret
      exact ⟨rfl, B3⟩
end Go.Proofs.YtjjimcdpeofddaaDoor

/- For every code: styles are those of their functions, and decimal numbers have digits alone. -/
import Derived.Test.YtjjimcdpeofddaaDoorFormat
import Derived.Test.YtjjimcdpeofddaaDoorDraws
namespace Go.Proofs.YtjjimcdpeofddaaDoor
open Go.RowKit
set_option maxHeartbeats 1000000
set_option maxRecDepth 100000

def DrawnTwo (w : World) (e : Ending) (w' : World) : Prop := ∃ v s : Int, -1 ≤ v ∧ v ≤ 4000 ∧ e = .returned (.tuple #[.int .i64 v, .int .i64 s]) ∧ Below w.heap.size w w'
theorem drawFormatNumber_any (a : Option Addr) (len cap : Nat) (zs : List Int) (w : World) (h : RowIn .u8 w a len cap zs) :
    Calls Tryd.prog 18 #[.slice a len cap] w (DrawnTwo w) := by
  have HR := Lib.hid h; clear h
  go_enter Tryd.func18, Tryd.ntmps18
  go_wp2_with fail
  refine (newReader_any a len cap zs _ HR.out).mono ?_
  rintro e w1 ⟨rfl, hR, hb⟩
  go_wp2_with fail
  refine (someNumber_any w.heap.size 0 _ (by omega) hR).mono ?_
  rintro e w2 ⟨v, h1, h2, rfl, hR2, hK⟩
  have B2 : Below w.heap.size w w2 := hb.trans hK.below
  clear hb hK hR
  go_wp2_with fail
  refine (pick_pos w.heap.size (0 + 3) 5 _ (by omega) (by omega) hR2).mono ?_
  rintro e w3 ⟨c, hc, rfl, hR3, hK3⟩
  have HB : Hid (Below w.heap.size w w3) := B2.trans hK3.below
  clear B2 hK3 hR2 hR3
  go_wp2_with fail
  go_ret2
  exact ⟨v, c, h1, h2, rfl, HB.out⟩

theorem decDigits_dig : ∀ f u : Nat, u ≤ f → Lib.decDigits u ≠ [] ∧ ∀ c ∈ Lib.decDigits u, 48 ≤ c.toNat ∧ c.toNat ≤ 57 := by
  intro f
  induction f with
  | zero =>
    intro u hu
    obtain rfl : u = 0 := by omega
    rw [Lib.decDigits]
    exact ⟨by simp, by intro c hc; simp at hc; subst hc; decide⟩
  | succ f ih =>
    intro u hu
    rw [Lib.decDigits]
    split
    · next h =>
      refine ⟨by simp, fun c hc => ?_⟩
      obtain rfl := List.mem_singleton.1 hc
      rw [UInt8.toNat_ofNat', Nat.mod_eq_of_lt (by omega)]; omega
    · next h =>
      obtain ⟨_, h2⟩ := ih (u / 10) (by omega)
      refine ⟨by simp, fun c hc => ?_⟩
      rcases List.mem_append.1 hc with hc | hc
      · exact h2 c hc
      · obtain rfl := List.mem_singleton.1 hc
        rw [UInt8.toNat_ofNat', Nat.mod_eq_of_lt (by omega)]; omega
theorem fmtS_in (n s : Int) (h : fmtS n s ≠ []) : 1 ≤ n ∧ n ≤ 3999 := by
  unfold fmtS at h
  split at h
  · assumption
  · exact absurd rfl h

theorem formatNumber_walk (a : Option Addr) (len cap : Nat) (zs : List Int) (w : World) (h : RowIn .u8 w a len cap zs) (hL : Laid0 w) (hT : Pow10 w) :
    Calls Tryd.prog 9 #[.slice a len cap] w fun e w' => e = .returned (.bool true) ∧ Below w.heap.size w w' := by
  have hm := h.len_le.1
  unfold maxLen at hm
  have HR := Lib.hid h; clear h
  by_cases hl : 1048576 < len
  · go_enter Tryd.func9, Tryd.ntmps9
    go_wp2
    go_ret
    exact ⟨rfl, Below.refl _ _⟩
  · go_enter Tryd.func9, Tryd.ntmps9
    go_wp2_with fail
    refine (drawFormatNumber_any a len cap zs _ HR.out).mono ?_
    rintro e w1 ⟨v, s, h1, h2, rfl, hb⟩
    go_wp2_with fail
    refine (formatNumber_any v s _ (hL.below hb) (hT.below hb)).mono ?_
    rintro e w2 ⟨rfl, hb2⟩
    have B2 := hb.trans (hb2.mono hb.size)
    go_wp2_with fail
    refine (sformatNumber_any v s _).mono ?_
    rintro e w3 ⟨rfl, hb3⟩
    have B3 := B2.trans (hb3.mono B2.size)
    by_cases hne : fmtS v s = []
    · have hE : (fmtS v s).isEmpty = true := by rw [hne]; rfl
      clear hne
      go_wp2_with fail
      refine (sformatNumber_any v s _).mono ?_
      rintro e w4 ⟨rfl, hb4⟩
      go_wp2_with fail
      go_ret
      exact ⟨rfl, B3.trans (hb4.mono B3.size)⟩
    · have hE : (fmtS v s).isEmpty = false := by simpa using hne
      have hin := fmtS_in v s hne
      have f1 : fmtS v 1 = Lib.decDigits v.toNat := by unfold fmtS; rw [if_pos hin]; rfl
      have f2 : fmtS v 2 = romS v := by unfold fmtS; rw [if_pos hin]; rfl
      have f3 : fmtS v 3 = alphaS v := by unfold fmtS; rw [if_pos hin]; rfl
      have F1 := Lib.hid f1
      have F2 := Lib.hid f2
      have F3 := Lib.hid f3
      have HD := Lib.hid (decDigits_dig v.toNat v.toNat (Nat.le_refl _))
      have HLn : Hid ((Lib.decDigits v.toNat).length ≤ 21) := Lib.hid (by
        have := Lib.itoa_length_le (v.toNat : Int) (by omega) (by omega)
        rwa [Lib.itoa_nonneg] at this)
      clear hne f1 f2 f3
      go_wp2_with fail
      refine (formatNumber_any v 1 _ (hL.below B3) (hT.below B3)).mono ?_
      rintro e w4 ⟨rfl, hb4⟩
      have B4 := B3.trans (hb4.mono B3.size)
      rw [F1.out]
      generalize Lib.decDigits v.toNat = ds at *
      have hlen := HLn.out
      go_wp2_with fail
      go_loop [7] (fun i => ∃ k : Nat, k ≤ ds.length ∧ i = .int .i64 k) (fun i => ds.length - (intOf i).toNat)
      case atStart => exact ⟨0, by omega, rfl⟩
      case round =>
        obtain ⟨k, hk, rfl⟩ := hrel
        by_cases hlt : k < ds.length
        · have hd := HD.out.2 _ (List.getElem_mem hlt)
          have hbs : k < (⟨ds.toArray⟩ : ByteArray).size := by show k < ds.toArray.size; simpa using hlt
          have hd' : 48 ≤ ((⟨ds.toArray⟩ : ByteArray)[k]'hbs).toNat ∧ ((⟨ds.toArray⟩ : ByteArray)[k]'hbs).toNat ≤ 57 := hd
          clear hd
          have d1 : decide ((((⟨ds.toArray⟩ : ByteArray)[k]'hbs).toNat : Int) < 48) = false := decide_eq_false (by omega)
          have d2 : decide ((57 : Int) < (((⟨ds.toArray⟩ : ByteArray)[k]'hbs).toNat : Int)) = false := decide_eq_false (by omega)
          go_wp2_with fail
          go_round
          case rel => exact ⟨k + 1, by omega, by go_num⟩
          case measure => simp [intOf]; omega
        · obtain rfl : k = ds.length := by omega
          have hne : 0 < ds.length := List.length_pos_iff.2 HD.out.1
          go_wp2_with fail
          refine (formatNumber_any v 2 _ (hL.below B4) (hT.below B4)).mono ?_
          rintro e w5 ⟨rfl, hb5⟩
          have B5 := B4.trans (hb5.mono B4.size)
          rw [F2.out]
          go_wp2_with fail
          refine (roman_any v _ (hL.below B5)).mono ?_
          rintro e w6 ⟨rfl, hb6⟩
          have B6 := B5.trans (hb6.mono B5.size)
          go_wp2_with fail
          refine (formatNumber_any v 3 _ (hL.below B6) (hT.below B6)).mono ?_
          rintro e w7 ⟨rfl, hb7⟩
          have B7 := B6.trans (hb7.mono B6.size)
          rw [F3.out]
          go_wp2_with fail
          refine (alpha_any v _).mono ?_
          rintro e w8 ⟨rfl, rfl⟩
          go_wp2_with fail
          go_ret
          exact ⟨by simp, B7⟩
end Go.Proofs.YtjjimcdpeofddaaDoor

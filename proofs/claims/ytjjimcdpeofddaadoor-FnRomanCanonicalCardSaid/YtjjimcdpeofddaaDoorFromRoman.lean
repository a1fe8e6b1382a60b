/- The program's FromRoman gives numR and okR. -/
import Derived.Test.YtjjimcdpeofddaaDoorSRoman
namespace Go.Proofs.YtjjimcdpeofddaaDoor
open Go.RowKit
set_option maxHeartbeats 1000000
set_option maxRecDepth 100000

def strLen : Value → Nat
  | .string s => s.size
  | _ => 0
theorem bytes_drop (r : List UInt8) (j : Nat) : (⟨r.toArray⟩ : ByteArray).extract j r.length = ⟨(r.drop j).toArray⟩ := by
  apply ByteArray.ext
  simp only [ByteArray.data_extract, List.extract_toArray]
  congr 1
  rw [List.extract_eq_take_drop, List.take_of_length_le (by simp)]
theorem hasPrefix_eq (r p : List UInt8) : Lib.hasPrefix r p = p.isPrefixOf r := by
  rfl
theorem parseGo_drop (lim k : Nat) (hk : k < 13) (m : Nat) (r : List UInt8) : parseGo lim (signs.drop k) m r = parseGo lim (signs.drop (k + 1)) (eat lim (vlu k) (sgn k).data.toList r.length m r).1 (eat lim (vlu k) (sgn k).data.toList r.length m r).2 := by
  rcases lt13 k hk with rfl | rfl | rfl | rfl | rfl | rfl | rfl | rfl | rfl | rfl | rfl | rfl | rfl <;> rfl
theorem sgn_ne (k : Nat) (hk : k < 13) : 1 ≤ (sgn k).size := by
  have : ∀ k, k < 13 → 1 ≤ (sgn k).size := by decide
  exact this k hk
theorem eat_stop (lim v : Nat) (sg : List UInt8) (f m : Nat) (r : List UInt8) (h : ¬ (m < lim ∧ sg.isPrefixOf r = true)) : eat lim v sg f m r = (m, r) := by
  cases f with
  | zero => rfl
  | succ f => rw [eat, if_neg h]

theorem fromRoman_any (s : ByteArray) (w : World) (hs : s.size ≤ maxLen) (hL : Laid0 w) :
    Calls Tryd.prog 14 #[.string s] w fun e w' => e = .returned (.tuple #[.int .i64 (numR s.data.toList), .bool (okR s.data.toList)]) ∧ Below w.heap.size w w' := by
  unfold maxLen at hs
  have HL := Lib.hid hL
  obtain ⟨t0, fr, hg⟩ := hL
  generalize hl : s.data.toList = l at *
  obtain rfl : s = ⟨l.toArray⟩ := by subst hl; rfl
  clear hl
  have hsz : l.length ≤ 9223372036854775807 := by
    have h : l.toArray.size ≤ 9223372036854775807 := hs
    simpa using h
  clear hs
  have HW := Lib.hid hg
  go_enter Tryd.func14, Tryd.ntmps14
  go_wp2_with (refine wpList_load_row rfl 41 _ rfl 0 rfl t0 romTbl fr _ hg Tryd.underlying41 rfl (by kernel_rfl) ?_)
  clear hg HW
  have hidx := index_tbl
  go_loopw [4, 5, 10] (fun t o i wr => ∃ (k m : Nat) (r : List UInt8), k ≤ 13 ∧ t = .int .i64 m ∧ o = .string ⟨r.toArray⟩ ∧ i = .int .i64 k ∧ m ≤ 5000 ∧ r.length ≤ 9223372036854775807 ∧ Hid (Below w.heap.size w wr) ∧ Hid (parseGo 4000 (signs.drop k) m r = parseR 4000 l)) (fun _ _ i _ => 13 - (intOf i).toNat)
  case atStart => exact ⟨0, 0, l, by omega, rfl, rfl, rfl, by omega, hsz, Below.refl _ _, rfl⟩
  case round =>
    obtain ⟨k, m, r, hk, rfl, rfl, rfl, hm, hr, HBe, HE⟩ := hrel
    obtain ⟨wo, rfl⟩ : ∃ wo : World, wo = wr := ⟨_, rfl⟩
    by_cases hlt : k < 13
    · have hix := hidx k hlt
      obtain ⟨hv1, hv2, hs2⟩ := vlu_pos k hlt
      have hs1 := sgn_ne k hlt
      have HE' : Hid (parseGo 4000 (signs.drop (k + 1)) (eat 4000 (vlu k) (sgn k).data.toList r.length m r).1 (eat 4000 (vlu k) (sgn k).data.toList r.length m r).2 = parseR 4000 l) := by
        rw [← parseGo_drop 4000 k hlt]; exact HE
      have hk13 : decide ((k : Int) < 13) = true := by simp; omega
      clear hidx HE
      generalize sgn k = sg at *
      generalize vlu k = v at *
      have HBe1 : Hid (Below w.heap.size w (wo.alloc (.cells #[.string sg, .int .i64 (v : Int)] 40))) := HBe.out.alloc HBe.out.size _
      have x0 : (wo.alloc (.cells #[.string sg, .int .i64 (v : Int)] 40)).cell? ⟨wo.heap.size, 0, none⟩ = some (.string sg) := by simp
      have x1 : (wo.alloc (.cells #[.string sg, .int .i64 (v : Int)] 40)).cell? ⟨wo.heap.size, 1, none⟩ = some (.int .i64 (v : Int)) := by simp
      go_wp2_with fail
      generalize (wo.alloc (.cells #[.string sg, .int .i64 (v : Int)] 40)) = wb at *
      go_loop [4, 5] (fun t o => ∃ (f m : Nat) (r : List UInt8), t = .int .i64 m ∧ o = .string ⟨r.toArray⟩ ∧ m ≤ 5000 ∧ r.length ≤ 9223372036854775807 ∧ r.length ≤ f ∧ Hid (parseGo 4000 (signs.drop (k + 1)) (eat 4000 v sg.data.toList f m r).1 (eat 4000 v sg.data.toList f m r).2 = parseR 4000 l)) (fun _ o => strLen o)
      case atStart => exact ⟨r.length, m, r, rfl, rfl, hm, hr, Nat.le_refl _, HE'⟩
      case round =>
        clear HE' hm hr hix
        obtain ⟨f, m, r, rfl, rfl, hm, hr, hf, HE⟩ := hrel
        by_cases hm4 : m ≤ 3999
        · have hd : decide ((m : Int) ≤ 3999) = true := by simp; omega
          cases hp : Lib.hasPrefix r sg.data.toList with
          | true =>
            have hle : sg.size ≤ r.length := by
              have := List.isPrefixOf_iff_prefix.1 hp
              exact this.length_le
            obtain ⟨f, rfl⟩ : ∃ g, f = g + 1 := ⟨f - 1, by omega⟩
            have HE' : Hid (parseGo 4000 (signs.drop (k + 1)) (eat 4000 v sg.data.toList f (m + v) (r.drop sg.size)).1 (eat 4000 v sg.data.toList f (m + v) (r.drop sg.size)).2 = parseR 4000 l) := by
              have h := HE.out
              rw [eat, if_pos ⟨by omega, hp⟩] at h
              exact h
            have HX := Lib.hid (bytes_drop r sg.size)
            clear HE
            go_wp2_with (go_at_call 28; refine (Tryd.strings_HasPrefix _ _ _).mono ?_; rintro e w' ⟨rfl, rfl⟩)
            rw [HX.out]
            go_round
            case rel => exact ⟨f, m + v, _, by go_num, rfl, by omega, by simp; omega, by simp; omega, HE'⟩
            case measure => show (r.drop sg.size).toArray.size < r.toArray.size; simp; omega
          | false =>
            have HE' : Hid (parseGo 4000 (signs.drop (k + 1)) m r = parseR 4000 l) := by
              have h := HE.out
              rw [eat_stop _ _ _ _ _ _ (fun h => by rw [hasPrefix_eq, h.2] at hp; cases hp)] at h
              exact h
            clear HE
            go_wp2_with (go_at_call 28; refine (Tryd.strings_HasPrefix _ _ _).mono ?_; rintro e w' ⟨rfl, rfl⟩)
            go_roundw
            case rel => exact ⟨k + 1, m, r, by omega, rfl, rfl, by go_num, hm, hr, HBe1, HE'⟩
            case measure => simp [intOf]; omega
        · have hd : decide ((m : Int) ≤ 3999) = false := by simp; omega
          have HE' : Hid (parseGo 4000 (signs.drop (k + 1)) m r = parseR 4000 l) := by
            have h := HE.out
            rw [eat_stop _ _ _ _ _ _ (fun h => by omega)] at h
            exact h
          clear HE
          go_wp2_with (go_at_call 28; refine (Tryd.strings_HasPrefix _ _ _).mono ?_; rintro e w' ⟨rfl, rfl⟩)
          go_roundw
          case rel => exact ⟨k + 1, m, r, by omega, rfl, rfl, by go_num, hm, hr, HBe1, HE'⟩
          case measure => simp [intOf]; omega
    · obtain rfl : k = 13 := by omega
      have HE' : Hid (m = parseR 4000 l) := HE.out
      have HI := Lib.hid (okR_iff l)
      have HN := Lib.hid (okR_num l)
      have hL1 := HL.out.below (HBe.out)
      clear HE hidx
      by_cases h0 : l = []
      · subst h0
        have HF : Hid (okR [] = false) := by
          cases h : okR [] with
          | true => exact absurd rfl (HI.out.2 h).1
          | false => rfl
        have HF0 : Hid (numR [] = 0) := by unfold numR; rw [HF.out]; rfl
        go_wp2_with fail
        go_ret2
        exact ⟨by rw [HF.out, HF0.out]; rfl, HBe.out⟩
      · have he : l.isEmpty = false := by simpa using h0
        go_wp2_with fail
        refine (roman_any (m : Int) _ hL1).mono ?_
        rintro e w1 ⟨rfl, hb1⟩
        have HB1 := Lib.hid (HBe.out.trans (hb1.mono HBe.out.size))
        by_cases hq : romS (m : Int) = l
        · have HT : Hid (okR l = true) := HI.out.1 ⟨h0, by rw [← HE'.out]; exact hq⟩
          have HT2 : Hid (numR l = (m : Int)) := by
            have := (HN.out HT.out).1
            rw [← HE'.out] at this; exact this
          have hne : (romS (m : Int) == l) = true := by simpa using hq
          clear hq hb1
          go_wp2_with fail
          go_ret2
          exact ⟨by rw [HT.out, HT2.out]; rfl, HB1.out⟩
        · have HF : Hid (okR l = false) := by
            cases h : okR l with
            | true => exact absurd (by rw [HE'.out]; exact (HI.out.2 h).2) hq
            | false => rfl
          have HF0 : Hid (numR l = 0) := by unfold numR; rw [HF.out]; rfl
          have hne : (romS (m : Int) == l) = false := by simpa using hq
          clear hq hb1
          go_wp2_with fail
          go_ret2
          exact ⟨by rw [HF.out, HF0.out]; rfl, HB1.out⟩
end Go.Proofs.YtjjimcdpeofddaaDoor

/- The reference's FromRoman gives numR and okR. -/
import Derived.Test.YtjjimcdpeofddaaDoorFromRoman
namespace Go.Proofs.YtjjimcdpeofddaaDoor
open Go.RowKit
set_option maxHeartbeats 1000000
set_option maxRecDepth 100000

theorem bytes_take (r : List UInt8) (j : Nat) : (⟨r.toArray⟩ : ByteArray).extract 0 j = ⟨(r.take j).toArray⟩ := by
  apply ByteArray.ext
  simp only [ByteArray.data_extract, List.extract_toArray]
  congr 1
theorem prefix_take (r p : List UInt8) : (r.take p.length == p) = p.isPrefixOf r := by
  rw [Bool.eq_iff_iff]
  simp only [beq_iff_eq, List.isPrefixOf_iff_prefix]
  exact ⟨fun h => by rw [← h]; exact List.take_prefix _ _, fun h => (List.prefix_iff_eq_take.1 h).symm⟩

theorem sromanValue_any (s : ByteArray) (w : World) (hs : s.size ≤ maxLen) :
    Calls Tryd.prog 27 #[.string s] w fun e w' => e = .returned (.int .i64 (parseR 10000 s.data.toList : Int)) ∧ Below w.heap.size w w' := by
  unfold maxLen at hs
  generalize hl : s.data.toList = l at *
  obtain rfl : s = ⟨l.toArray⟩ := by subst hl; rfl
  clear hl
  have hsz : l.length ≤ 9223372036854775807 := by
    have h : l.toArray.size ≤ 9223372036854775807 := hs
    simpa using h
  clear hs
  go_enter Tryd.func27, Tryd.ntmps27
  go_wp2_with fail
  refine (romanParts_any _).mono ?_
  rintro e w1 ⟨rfl, hP, hb⟩
  have HP := Lib.hid hP
  have HB := Lib.hid hb
  clear hP hb
  go_wp2_with fail
  go_loopw [0, 5, 6] (fun o t i wr => ∃ (k m : Nat) (r : List UInt8) (q : Nat), k ≤ 13 ∧ t = .int .i64 m ∧ o = .string ⟨r.toArray⟩ ∧ i = .int .i64 k ∧ m ≤ 11000 ∧ r.length ≤ 9223372036854775807 ∧ wr = w1.drewN q ∧ Hid (parseGo 10000 (signs.drop k) m r = parseR 10000 l)) (fun _ _ i _ => 13 - (intOf i).toNat)
  case atStart => exact ⟨0, 0, l, 0, by omega, rfl, rfl, rfl, by omega, hsz, rfl, rfl⟩
  case round =>
    obtain ⟨k, m, r, q, hk, rfl, rfl, rfl, hm, hr, rfl, HE⟩ := hrel
    by_cases hlt : k < 13
    · obtain ⟨hv1, hv2, hs2⟩ := vlu_pos k hlt
      have hs1 := sgn_ne k hlt
      obtain ⟨c0, c1⟩ := HP.out k hlt
      have HE' : Hid (parseGo 10000 (signs.drop (k + 1)) (eat 10000 (vlu k) (sgn k).data.toList r.length m r).1 (eat 10000 (vlu k) (sgn k).data.toList r.length m r).2 = parseR 10000 l) := by
        rw [← parseGo_drop 10000 k hlt]; exact HE
      have hk13 : decide ((k : Int) < 13) = true := by simp; omega
      clear HE
      generalize sgn k = sg at *
      generalize vlu k = v at *
      go_wp2_with fail
      go_loopw [0, 5] (fun o t wr => ∃ (f m : Nat) (r : List UInt8) (q : Nat), t = .int .i64 m ∧ o = .string ⟨r.toArray⟩ ∧ m ≤ 11000 ∧ r.length ≤ 9223372036854775807 ∧ wr = w1.drewN q ∧ r.length ≤ f ∧ Hid (parseGo 10000 (signs.drop (k + 1)) (eat 10000 v sg.data.toList f m r).1 (eat 10000 v sg.data.toList f m r).2 = parseR 10000 l)) (fun o _ _ => strLen o)
      case atStart => exact ⟨r.length, m, r, q, rfl, rfl, hm, hr, rfl, Nat.le_refl _, HE'⟩
      case round =>
        clear HE' hm hr
        obtain ⟨f, m, r, q, rfl, rfl, hm, hr, rfl, hf, HE⟩ := hrel
        have hlen : sg.data.toList.length = sg.size := rfl
        by_cases hle : sg.size ≤ r.length
        · have hd1 : decide ((sg.size : Int) ≤ (r.length : Int)) = true := by simp; omega
          cases hp : sg.data.toList.isPrefixOf r with
          | true =>
            have hq : (r.take sg.size == sg.toList) = true := by rw [ByteArray.toList_eq, ← hlen, prefix_take]; exact hp
            have hbt := bytes_take r sg.size
            by_cases hm4 : m < 10000
            · have hd2 : decide ((m : Int) < 10000) = true := by simp; omega
              go_wp2_with fail
              go_quiet (fail)
              go_wp2_with fail
              rw [bytes_drop]
              go_roundw
              case rel =>
                obtain ⟨f, rfl⟩ : ∃ g, f = g + 1 := ⟨f - 1, by omega⟩
                refine ⟨f, m + v, _, _, by go_num, rfl, by omega, by simp; omega, rfl, by simp; omega, ?_⟩
                have h := HE.out
                rw [eat, if_pos ⟨by omega, hp⟩] at h
                exact h
              case measure => show (r.drop sg.size).toArray.size < r.toArray.size; simp; omega
            · have hd2 : decide ((m : Int) < 10000) = false := by simp; omega
              have HE' : Hid (parseGo 10000 (signs.drop (k + 1)) m r = parseR 10000 l) := by
                have h := HE.out
                rw [eat_stop _ _ _ _ _ _ (fun h => by omega)] at h
                exact h
              clear HE
              go_wp2_with fail
              go_quiet (fail)
              go_wp2_with fail
              go_roundw
              case rel => exact ⟨k + 1, m, r, _, by omega, rfl, rfl, by go_num, hm, hr, rfl, HE'⟩
              case measure => simp [intOf]; omega
          | false =>
            have hq : (r.take sg.size == sg.toList) = false := by rw [ByteArray.toList_eq, ← hlen, prefix_take]; exact hp
            have hbt := bytes_take r sg.size
            have HE' : Hid (parseGo 10000 (signs.drop (k + 1)) m r = parseR 10000 l) := by
              have h := HE.out
              rw [eat_stop _ _ _ _ _ _ (fun h => by rw [h.2] at hp; cases hp)] at h
              exact h
            clear hp
            clear HE
            go_wp2_with fail
            go_quiet (fail)
            go_wp2_with fail
            go_roundw
            case rel => exact ⟨k + 1, m, r, _, by omega, rfl, rfl, by go_num, hm, hr, rfl, HE'⟩
            case measure => simp [intOf]; omega
        · have hd1 : decide ((sg.size : Int) ≤ (r.length : Int)) = false := by simp; omega
          have HE' : Hid (parseGo 10000 (signs.drop (k + 1)) m r = parseR 10000 l) := by
            have h := HE.out
            rw [eat_stop _ _ _ _ _ _ (fun h => by have := (List.isPrefixOf_iff_prefix.1 h.2).length_le; rw [hlen] at this; omega)] at h
            exact h
          clear hlen
          clear HE
          go_wp2_with fail
          go_quiet (fail)
          go_wp2_with fail
          go_roundw
          case rel => exact ⟨k + 1, m, r, _, by omega, rfl, rfl, by go_num, hm, hr, rfl, HE'⟩
          case measure => simp [intOf]; omega
    · obtain rfl : k = 13 := by omega
      have HE' : Hid (m = parseR 10000 l) := HE.out
      clear HE
      go_wp2_with fail
      go_ret
      exact ⟨by rw [← HE'.out]; rfl, below_drewN HB.out _⟩

theorem sfromRoman_any (s : ByteArray) (w : World) (hs : s.size ≤ maxLen) :
    Calls Tryd.prog 13 #[.string s] w fun e w' => e = .returned (.tuple #[.int .i64 (numR s.data.toList), .bool (okR s.data.toList)]) ∧ Below w.heap.size w w' := by
  have HS := Lib.hid hs
  unfold maxLen at hs
  have HY : Hid (okR s.data.toList = true → numR s.data.toList = (parseR 10000 s.data.toList : Int)) := fun h => by unfold numR; rw [if_pos h]
  have HZ : Hid (okR s.data.toList = false → numR s.data.toList = 0) := fun h => by unfold numR; rw [h]; rfl
  have HO : Hid (okR s.data.toList = (decide (1 ≤ parseR 10000 s.data.toList ∧ parseR 10000 s.data.toList ≤ 3999) && decide (romF (parseR 10000 s.data.toList) = s.data.toList))) := rfl
  go_enter Tryd.func13, Tryd.ntmps13
  go_wp2_with fail
  refine (sromanValue_any s _ HS.out).mono ?_
  rintro e w1 ⟨rfl, hb⟩
  generalize parseR 10000 s.data.toList = m at *
  by_cases hr : 1 ≤ m ∧ m ≤ 3999
  · have hd : decide ((1 : Int) ≤ (m : Int) ∧ (m : Int) ≤ 3999) = true := by simp; omega
    by_cases he : romF m = s.data.toList
    · have HT : Hid (okR s.data.toList = true) := HO.out.trans (by simp [hr, he])
      have hne : (romF m == s.toList) = true := by rw [ByteArray.toList_eq]; simpa using he
      clear he
      go_wp2_with fail
      refine (inRange_any _ _ _ _).mono ?_
      rintro e w' ⟨rfl, rfl⟩
      go_wp2_with fail
      refine (sroman_in m (by omega) _).mono ?_
      rintro e w2 ⟨rfl, hb2⟩
      go_wp2_with fail
      go_ret2
      exact ⟨by rw [HT.out, HY.out HT.out]; rfl, hb.trans (hb2.mono hb.size)⟩
    · have HT : Hid (okR s.data.toList = false) := HO.out.trans (by simp [hr, he])
      have hne : (romF m == s.toList) = false := by rw [ByteArray.toList_eq]; simpa using he
      clear he
      go_wp2_with fail
      refine (inRange_any _ _ _ _).mono ?_
      rintro e w' ⟨rfl, rfl⟩
      go_wp2_with fail
      refine (sroman_in m (by omega) _).mono ?_
      rintro e w2 ⟨rfl, hb2⟩
      go_wp2_with fail
      go_ret2
      exact ⟨by rw [HT.out, HZ.out HT.out]; rfl, hb.trans (hb2.mono hb.size)⟩
  · have hd : decide ((1 : Int) ≤ (m : Int) ∧ (m : Int) ≤ 3999) = false := by simp; omega
    have HT : Hid (okR s.data.toList = false) := HO.out.trans (by simp [hr])
    go_wp2_with fail
    refine (inRange_any _ _ _ _).mono ?_
    rintro e w' ⟨rfl, rfl⟩
    go_wp2_with fail
    go_ret2
    exact ⟨by rw [HT.out, HZ.out HT.out]; rfl, hb⟩

theorem exactFromRoman_walk (s : ByteArray) (w : World) (hs : s.size ≤ maxLen) (hL : Laid0 w) :
    Calls Tryd.prog 5 #[.string s] w fun e w' => e = .returned (.bool true) ∧ Below w.heap.size w w' := by
  have HS := Lib.hid hs
  unfold maxLen at hs
  by_cases h : 1048576 < s.size
  · go_enter Tryd.func5, Tryd.ntmps5
    go_wp2
    go_ret
    exact ⟨rfl, Below.refl _ _⟩
  · go_enter Tryd.func5, Tryd.ntmps5
    go_wp2_with fail
    refine (sfromRoman_any s _ HS.out).mono ?_
    rintro e w1 ⟨rfl, hb⟩
    go_wp2_with fail
    refine (fromRoman_any s _ HS.out (hL.below hb)).mono ?_
    rintro e w2 ⟨rfl, hb2⟩
    go_wp2_with fail
    go_ret
    exact ⟨rfl, hb.trans (hb2.mono hb.size)⟩
end Go.Proofs.YtjjimcdpeofddaaDoor

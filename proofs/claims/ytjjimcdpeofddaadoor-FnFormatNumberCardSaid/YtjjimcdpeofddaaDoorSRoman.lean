/- The reference's Roman gives romS. -/
import Derived.Test.YtjjimcdpeofddaaDoorRoman
namespace Go.Proofs.YtjjimcdpeofddaaDoor
open Go.RowKit
set_option maxHeartbeats 1000000
set_option maxRecDepth 100000

theorem str_append (a : List UInt8) (s : ByteArray) : ({ data := a.toArray } ++ s : ByteArray) = { data := (a ++ s.data.toList).toArray } := by
  apply ByteArray.ext
  rw [ByteArray.data_append]
  simp

/-- The two rows that hold the signs and their values. -/
def Parts (w : World) (g : Nat) : Prop := ∀ k, k < 13 → w.cell? ⟨g, k, none⟩ = some (.string (sgn k)) ∧ w.cell? ⟨g + 1, k, none⟩ = some (.int .i64 (vlu k : Int))
def GaveParts (w : World) (e : Ending) (w' : World) : Prop := e = .returned (.tuple #[.slice (some ⟨w.heap.size, 0, none⟩) 13 13, .slice (some ⟨w.heap.size + 1, 0, none⟩) 13 13]) ∧ Parts w' w.heap.size ∧ Below w.heap.size w w'
theorem romanParts_any (w : World) : Calls Tryd.prog 35 #[] w (GaveParts w) := by
  go_enter Tryd.func35, Tryd.ntmps35
  go_wp2
  go_ret2
  refine ⟨rfl, fun k hk => ?_, ((Below.refl _ _).alloc (Nat.le_refl _) _).alloc (by simp) _⟩
  rcases lt13 k hk with rfl | rfl | rfl | rfl | rfl | rfl | rfl | rfl | rfl | rfl | rfl | rfl | rfl <;> exact ⟨by simp [go_sem, sgn, signs], by simp [go_sem, vlu, signs]⟩

theorem sroman_in (n : Nat) (h2 : n ≤ 3999) (w : World) :
    Calls Tryd.prog 21 #[.int .i64 n] w fun e w' => e = .returned (.string ⟨(romF n).toArray⟩) ∧ Below w.heap.size w w' := by
  have hlen := (parse_rom n (by omega)).2.2
  go_enter Tryd.func21, Tryd.ntmps21
  go_wp2_with fail
  refine (romanParts_any _).mono ?_
  rintro e w1 ⟨rfl, hP, hb⟩
  have HP := Lib.hid hP
  have HB := Lib.hid hb
  clear hP hb
  go_wp2_with fail
  go_loop [0, 5, 6] (fun t o i => ∃ (k m : Nat) (acc : List UInt8), k ≤ 13 ∧ t = .int .i64 m ∧ o = .string ⟨acc.toArray⟩ ∧ i = .int .i64 k ∧ m ≤ 3999 ∧ Hid (acc ++ romGo (signs.drop k) m = romF n)) (fun _ _ i => 13 - (intOf i).toNat)
  case atStart => exact ⟨0, n, [], by omega, rfl, rfl, rfl, h2, rfl⟩
  case round =>
    obtain ⟨k, m, acc, hk, rfl, rfl, rfl, hm, HE⟩ := hrel
    by_cases hlt : k < 13
    · obtain ⟨hv1, hv2, hs2⟩ := vlu_pos k hlt
      have HE' : Hid (acc ++ (rep (sgn k).data.toList (m / vlu k) ++ romGo (signs.drop (k + 1)) (m % vlu k)) = romF n) := by
        have h := HE.out
        rw [romGo_drop k hlt] at h
        exact h
      obtain ⟨c0, c1⟩ := HP.out k hlt
      have hk13 : decide ((k : Int) < 13) = true := by simp; omega
      clear HE
      generalize sgn k = s at *
      generalize vlu k = v at *
      go_wp2_with fail
      go_loop [0, 5] (fun t o => ∃ (m : Nat) (acc : List UInt8), t = .int .i64 m ∧ o = .string ⟨acc.toArray⟩ ∧ m ≤ 3999 ∧ Hid (acc ++ (rep s.data.toList (m / v) ++ romGo (signs.drop (k + 1)) (m % v)) = romF n)) (fun t _ => (intOf t).toNat)
      case atStart => exact ⟨m, acc, rfl, rfl, hm, HE'⟩
      case round =>
        clear HE' hm
        obtain ⟨m, acc, rfl, rfl, hm, HE⟩ := hrel
        by_cases hvm : v ≤ m
        · have HE' : Hid ((acc ++ s.data.toList) ++ (rep s.data.toList ((m - v) / v) ++ romGo (signs.drop (k + 1)) ((m - v) % v)) = romF n) := by
            have h := HE.out
            rw [rep_step _ _ _ _ (by omega) hvm] at h
            exact Lib.hid (by rw [List.append_assoc]; exact h)
          have hal : acc.length ≤ 15 := by
            have h := congrArg List.length HE.out
            rw [List.length_append] at h
            omega
          have HSub : Hid ((m : Int) - v = ((m - v : Nat) : Int)) := Lib.hid (by omega)
          go_wp2_with fail
          rw [HSub.out]
          go_round
          case rel => exact ⟨m - v, acc ++ s.data.toList, rfl, by rw [str_append], by omega, HE'⟩
          case measure => simp [intOf]; omega
        · have HE' : Hid (acc ++ romGo (signs.drop (k + 1)) m = romF n) := by
            have h := HE.out
            rw [rep_stop _ _ _ _ (by omega)] at h
            exact h
          go_wp2_with fail
          go_round
          case rel => exact ⟨k + 1, m, acc, by omega, rfl, rfl, by go_num, hm, HE'⟩
          case measure => simp [intOf]; omega
    · obtain rfl : k = 13 := by omega
      have HE' : Hid (acc = romF n) := by
        have h := HE.out
        rw [show signs.drop 13 = [] from rfl] at h
        exact Lib.hid (by simpa [romGo] using h)
      clear HE
      go_wp2_with fail
      go_ret
      exact ⟨by rw [HE'.out]; rfl, HB.out⟩

theorem sroman_any (n : Int) (w : World) :
    Calls Tryd.prog 10 #[.int .i64 n] w fun e w' => e = .returned (.string ⟨(romS n).toArray⟩) ∧ Below w.heap.size w w' := by
  unfold romS
  by_cases h : 1 ≤ n ∧ n ≤ 3999
  · rw [if_pos h]
    have hw : (decide ((1:Int) ≤ n ∧ n ≤ 3999)) = true := by simpa using h
    obtain ⟨m, rfl⟩ := Int.eq_ofNat_of_zero_le (show 0 ≤ n by omega)
    rw [Int.toNat_natCast]
    go_enter Tryd.func10, Tryd.ntmps10
    go_wp2_with (first | (go_at_call 20; refine (inRange_any _ _ _ _).mono ?_; rintro e w' ⟨rfl, rfl⟩) | (go_at_call 21; refine (sroman_in m (by omega) _).mono ?_; rintro e w1 ⟨rfl, hb⟩))
    go_ret
    exact ⟨rfl, by assumption⟩
  · rw [if_neg h]
    have hw : (decide ((1:Int) ≤ n ∧ n ≤ 3999)) = false := by simpa using h
    go_enter Tryd.func10, Tryd.ntmps10
    go_wp2_with (go_at_call 20; refine (inRange_any _ _ _ _).mono ?_; rintro e w' ⟨rfl, rfl⟩)
    go_ret
    exact ⟨rfl, Below.refl _ _⟩

theorem exactRoman_walk (n : Int) (w : World) (hL : Laid0 w) :
    Calls Tryd.prog 3 #[.int .i64 n] w fun e w' => e = .returned (.bool true) ∧ Below w.heap.size w w' := by
  go_enter Tryd.func3, Tryd.ntmps3
  go_wp2_with fail
  refine (sroman_any _ _).mono ?_
  rintro e w1 ⟨rfl, hb⟩
  go_wp2_with fail
  refine (roman_any _ _ (hL.below hb)).mono ?_
  rintro e w2 ⟨rfl, hb2⟩
  go_wp2_with fail
  go_ret
  exact ⟨rfl, hb.trans (hb2.mono hb.size)⟩
end Go.Proofs.YtjjimcdpeofddaaDoor

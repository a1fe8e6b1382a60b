/- The reference's formatInt writes a number that is not negative in decimal. -/
import Derived.Test.YtckmkjkckadfjaaDoorBase
import Derived.Lib.ItoaLen
import Derived.Lib.ItoaMem
import Derived.Deep.RegionWith
namespace Go.Proofs.YtckmkjkckadfjaaDoor
open Go.RowKit
set_option maxHeartbeats 1000000
set_option maxRecDepth 100000

theorem dig_byte (d : Nat) (h : d < 10) : (48 + (d : Int)) = ((UInt8.ofNat (48 + d)).toNat : Int) := by
  rw [UInt8.toNat_ofNat', Nat.mod_eq_of_lt (by omega)]; omega
/-- A slice of one byte as a string. -/
theorem conv_one (W : World) (g : Nat) (x : Int) (d : Nat) (hd : d < 10) (hx : x = 48 + (d : Int)) (hc : W.cell? ⟨g, 0, none⟩ = some (.int .u8 x)) :
    (convert 22 9 (.slice (some ⟨g, 0, none⟩) 1 1)).run Tryd.prog W = .ok (.string ⟨#[UInt8.ofNat (48 + d)]⟩) W := by
  have hcv := run_convert_bytes_back (P := Tryd.prog) W 22 9 5 ⟨g, 0, none⟩ 1 [UInt8.ofNat (48 + d)] Tryd.underlying22 Tryd.underlying5 Tryd.underlying9 (by
    intro j hj
    obtain rfl : j = 0 := by simp at hj; omega
    simp only [Addr.add]
    rw [hx, dig_byte d hd] at hc
    simpa using hc)
  exact hcv

theorem dec_append (a : List UInt8) (d : Nat) (b : UInt8) (h : b = UInt8.ofNat (48 + d)) : ({ data := a.toArray } ++ { data := #[b] } : ByteArray) = { data := (a ++ [UInt8.ofNat (48 + d)]).toArray } := by
  subst h
  apply ByteArray.ext
  rw [ByteArray.data_append]
  simp

theorem formatInt_any : ∀ (f n : Nat) (w : World), n ≤ f → n ≤ 1000000000 → Calls Tryd.prog 36 #[.int .i64 n] w fun e w' => e = .returned (.string ⟨(Lib.decDigits n).toArray⟩) ∧ Below w.heap.size w w' := by
  intro f
  induction f with
  | zero =>
    intro n w hn hm
    obtain rfl : n = 0 := by omega
    have hcv := conv_one (w.alloc (.cells #[.int .u8 48] 5)) w.heap.size 48 0 (by omega) rfl (by simp)
    have e : Lib.decDigits 0 = [48] := by rw [Lib.decDigits]; rfl
    rw [e]
    go_enter Tryd.func36, Tryd.ntmps36
    go_wp2_with fail
    go_ret
    exact ⟨rfl, (Below.refl _ _).alloc (Nat.le_refl _) _⟩
  | succ f ih =>
    intro n w hn hm
    by_cases h10 : n < 10
    · have hcv := conv_one (w.alloc (.cells #[.int .u8 (48 + (n : Int))] 5)) w.heap.size (48 + (n : Int)) n h10 rfl (by simp)
      have e : Lib.decDigits n = [UInt8.ofNat (48 + n)] := by rw [Lib.decDigits, dif_pos h10]
      rw [e]
      go_enter Tryd.func36, Tryd.ntmps36
      go_wp2_with fail
      go_ret
      exact ⟨congrArg (fun b => Ending.returned (.string ⟨#[b]⟩)) (UInt8.ofNat_add 48 n).symm, (Below.refl _ _).alloc (Nat.le_refl _) _⟩
    · have e : Lib.decDigits n = Lib.decDigits (n / 10) ++ [UInt8.ofNat (48 + n % 10)] := by rw [Lib.decDigits, dif_neg h10]
      rw [e]
      clear e
      have IH : Hid (∀ (n : Nat) (w : World), n ≤ f → n ≤ 1000000000 → Calls Tryd.prog 36 #[.int .i64 n] w fun e w' => e = .returned (.string ⟨(Lib.decDigits n).toArray⟩) ∧ Below w.heap.size w w') := ih
      clear ih
      have hlen : (Lib.decDigits (n / 10)).length ≤ 1000 := by
        have := Lib.itoa_length_le ((n / 10 : Nat) : Int) (by omega) (by omega)
        rw [Lib.itoa_nonneg] at this
        omega
      obtain ⟨q, hq⟩ : ∃ q, n / 10 = q := ⟨_, rfl⟩
      obtain ⟨d, hd⟩ : ∃ d, n % 10 = d := ⟨_, rfl⟩
      have j1 : Int.tdiv (n : Int) 10 = q := by rw [Int.tdiv_eq_ediv_of_nonneg (by omega)]; omega
      have j2 : Int.tmod (n : Int) 10 = d := by rw [Int.tmod_eq_emod_of_nonneg (by omega)]; omega
      have j3 : (n : Int) / 10 = q := by omega
      have j4 : (n : Int) % 10 = d := by omega
      have hdl : d < 10 := by omega
      have hql : q ≤ f := by omega
      have hqm : q ≤ 1000000000 := by omega
      rw [hq] at hlen ⊢
      rw [hd]
      clear hq hd
      have s1 : IntKind.i64.wrap (q : Int) = q := IntWalk.i64_in _ (by omega)
      have s2 : IntKind.i64.wrap (d : Int) = d := IntWalk.i64_in _ (by omega)
      have s3 : IntKind.i64.wrap (48 + (d : Int)) = 48 + (d : Int) := IntWalk.i64_in _ (by omega)
      have s4 : IntKind.u8.wrap (48 + (d : Int)) = 48 + (d : Int) := by rw [IntKind.wrap_u8']; omega
      have hcv : ∀ (W : World) (g : Nat), W.cell? ⟨g, 0, none⟩ = some (.int .u8 (48 + (d : Int))) → (convert 22 9 (.slice (some ⟨g, 0, none⟩) 1 1)).run Tryd.prog W = .ok (.string ⟨#[UInt8.ofNat (48 + d)]⟩) W :=
        fun W g hc => conv_one W g _ d hdl rfl hc
      go_enter Tryd.func36, Tryd.ntmps36
      go_wp2_with fail
      go_region_with (go_at_call 36; refine (IH.out q _ hql hqm).mono ?_; rintro e w1 ⟨rfl, hb1⟩; obtain ⟨hc1, hf1⟩ := bcell hb1)
      all_goals
        have hs : w.heap.size ≤ w1.heap.size := by first | exact hb1.size | exact Nat.le_trans (Below.alloc (Below.refl w.heap.size w) (Nat.le_refl _) _).size hb1.size
        clear hcv hc1 hf1 s1 s2 s3 s4 j1 j2 j3 j4 IH
        go_wp2_with fail
        go_ret
        refine ⟨congrArg (fun b => Ending.returned (.string b)) (dec_append _ d _ (UInt8.ofNat_add 48 d).symm), ?_⟩
        have hd : Below w.heap.size w w1 := by first | exact (Below.refl _ _).drew.trans hb1 | exact ((Below.alloc (Below.refl _ _) (Nat.le_refl _) _).drew).trans (hb1.mono (Below.alloc (Below.refl w.heap.size w) (Nat.le_refl _) _).size)
        first | exact hd | exact hd.alloc hs _
end Go.Proofs.YtckmkjkckadfjaaDoor

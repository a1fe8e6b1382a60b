/- Roman numerals as plain lists of bytes: writing by the greatest sign first, reading sign by sign; both readings of what was written give the number. -/
import Derived.Test.YtjjimcdpeofddaaDoorBase
namespace Go.Proofs.YtjjimcdpeofddaaDoor

def signs : List (List UInt8 × Nat) :=
  [([109], 1000), ([99, 109], 900), ([100], 500), ([99, 100], 400), ([99], 100), ([120, 99], 90), ([108], 50), ([120, 108], 40), ([120], 10), ([105, 120], 9), ([118], 5), ([105, 118], 4), ([105], 1)]
def rep (s : List UInt8) : Nat → List UInt8
  | 0 => []
  | k + 1 => s ++ rep s k
def romGo : List (List UInt8 × Nat) → Nat → List UInt8
  | [], _ => []
  | (s, v) :: r, n => rep s (n / v) ++ romGo r (n % v)
def romF (n : Nat) : List UInt8 := romGo signs n
def romS (n : Int) : List UInt8 := if 1 ≤ n ∧ n ≤ 3999 then romF n.toNat else []

theorem rep_step (s : List UInt8) (v n : Nat) (r : List (List UInt8 × Nat)) (hv : 0 < v) (h : v ≤ n) : rep s (n / v) ++ romGo r (n % v) = s ++ (rep s ((n - v) / v) ++ romGo r ((n - v) % v)) := by
  have e1 : n / v = (n - v) / v + 1 := by rw [← Nat.sub_add_cancel h, Nat.add_div_right _ hv, Nat.add_sub_cancel]
  have e2 : n % v = (n - v) % v := Nat.mod_eq_sub_mod h
  rw [e1, e2, rep, List.append_assoc]
theorem rep_stop (s : List UInt8) (v n : Nat) (r : List (List UInt8 × Nat)) (h : n < v) : rep s (n / v) ++ romGo r (n % v) = romGo r n := by
  rw [Nat.div_eq_of_lt h, Nat.mod_eq_of_lt h]; rfl

/-- One sign is read as often as it stands there, as long as the number is below a limit. -/
def eat (lim v : Nat) (sg : List UInt8) : Nat → Nat → List UInt8 → Nat × List UInt8
  | 0, n, r => (n, r)
  | f + 1, n, r => if n < lim ∧ sg.isPrefixOf r = true then eat lim v sg f (n + v) (r.drop sg.length) else (n, r)
def parseGo (lim : Nat) : List (List UInt8 × Nat) → Nat → List UInt8 → Nat
  | [], n, _ => n
  | (s, v) :: t, n, r => parseGo lim t (eat lim v s r.length n r).1 (eat lim v s r.length n r).2
def parseR (lim : Nat) (s : List UInt8) : Nat := parseGo lim signs 0 s

theorem parse_rom : ∀ k, k < 4000 → parseR 4000 (romF k) = k ∧ parseR 10000 (romF k) = k ∧ (romF k).length ≤ 15 := by
  have h : (List.range 4000).all (fun k => parseR 4000 (romF k) == k && (parseR 10000 (romF k) == k && decide ((romF k).length ≤ 15))) = true := by kernel_rfl
  intro k hk
  have := List.all_eq_true.1 h k (List.mem_range.2 hk)
  simpa using this

/-- What both readings give: is there a number, and which. -/
def okR (s : List UInt8) : Bool := decide (1 ≤ parseR 10000 s ∧ parseR 10000 s ≤ 3999) && decide (romF (parseR 10000 s) = s)
def numR (s : List UInt8) : Int := if okR s then (parseR 10000 s : Int) else 0
theorem romF_ne (k : Nat) (h1 : 1 ≤ k) (h2 : k ≤ 3999) : romF k ≠ [] := by
  intro e
  have h := (parse_rom k (by omega)).1
  rw [e] at h
  have h0 := (parse_rom 0 (by omega)).1
  have : romF 0 = [] := by kernel_rfl
  rw [this] at h0
  omega
theorem okR_iff (s : List UInt8) : (s ≠ [] ∧ romS (parseR 4000 s) = s) ↔ okR s = true := by
  unfold okR
  simp only [Bool.and_eq_true, decide_eq_true_eq]
  constructor
  · rintro ⟨h0, h1⟩
    unfold romS at h1
    split at h1
    · next hr =>
      rw [Int.toNat_natCast] at h1
      have hp := (parse_rom (parseR 4000 s) (by omega)).2.1
      rw [h1] at hp
      rw [hp]
      exact ⟨by omega, h1⟩
    · exact absurd h1.symm h0
  · rintro ⟨h0, h1⟩
    have hp := (parse_rom (parseR 10000 s) (by omega)).1
    rw [h1] at hp
    refine ⟨fun e => ?_, ?_⟩
    · have hn := romF_ne _ h0.1 h0.2
      rw [h1] at hn
      exact hn e
    · rw [hp]
      unfold romS
      rw [if_pos (by omega), Int.toNat_natCast]
      exact h1
theorem okR_num (s : List UInt8) (h : okR s = true) : numR s = (parseR 4000 s : Int) ∧ 1 ≤ numR s ∧ numR s ≤ 3999 ∧ romS (numR s) = s := by
  have h' := (okR_iff s).2 h
  unfold numR
  rw [if_pos h]
  unfold okR at h
  simp only [Bool.and_eq_true, decide_eq_true_eq] at h
  have hp := (parse_rom (parseR 10000 s) (by omega)).1
  rw [h.2] at hp
  refine ⟨by omega, by omega, by omega, ?_⟩
  rw [← hp]; exact h'.2
theorem okR_rom (n : Int) (h : 1 ≤ n ∧ n ≤ 3999) : okR (romS n) = true ∧ numR (romS n) = n := by
  obtain ⟨k, rfl⟩ := Int.eq_ofNat_of_zero_le (show 0 ≤ n by omega)
  have e : romS (k : Int) = romF k := by unfold romS; rw [if_pos h, Int.toNat_natCast]
  have hp := (parse_rom k (by omega)).2.1
  rw [e]
  have ho : okR (romF k) = true := by
    unfold okR
    rw [hp]; simp; omega
  refine ⟨ho, ?_⟩
  unfold numR
  rw [if_pos ho, hp]
theorem romS_thousand (n : Int) (h : 1 ≤ n) (h2 : n + 1000 ≤ 3999) : romS (n + 1000) = 109 :: romS n := by
  obtain ⟨k, rfl⟩ := Int.eq_ofNat_of_zero_le (show 0 ≤ n by omega)
  unfold romS
  rw [if_pos (by omega), if_pos (by omega), show ((k : Int) + 1000).toNat = k + 1000 by omega, Int.toNat_natCast]
  unfold romF signs
  rw [romGo, rep_step _ _ _ _ (by omega) (by omega), Nat.add_sub_cancel]
  rfl
end Go.Proofs.YtjjimcdpeofddaaDoor

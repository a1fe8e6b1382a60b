/- The search for a word among entries. -/
import Derived.Test.YtflnbpiegcepcaaDoorIdxMem
import Derived.StillTailTactics
import Derived.Deep.LoopGhost
namespace Go.Proofs.YtflnbpiegcepcaaDoor
open Go.RowKit
set_option maxHeartbeats 2000000
set_option maxRecDepth 100000
set_option linter.unusedVariables false

def cmpW (a b : ByteArray) : Int := if ltW a b = true then -1 else if ltW b a = true then 1 else 0
theorem cmpW_lt (a b : ByteArray) : cmpW a b < 0 ↔ ltW a b = true := by
  unfold cmpW; split
  · simp [*]
  · split <;> simp [*]
theorem cmpW_eq (a b : ByteArray) : cmpW a b = 0 ↔ a = b := by
  unfold cmpW
  constructor
  · intro h
    split at h
    · omega
    · split at h
      · omega
      · rename_i h1 h2; exact ltW_tri (by simpa using h1) (by simpa using h2)
  · rintro rfl
    rw [ltW_irrefl]; simp
theorem isNaN_any (s : ByteArray) (w : World) :
    Calls Tryd.prog 91 #[.string s] w fun e w' => e = .returned (.bool false) ∧ w = w' := by
  go_enter Tryd.func91, Tryd.ntmps91
  go_wp2
  go_ret
  exact ⟨rfl, rfl⟩
theorem compare_any (a b : ByteArray) (w : World) :
    Calls Tryd.prog 74 #[.string a, .string b] w fun e w' => e = .returned (.int .i64 (cmpW a b)) ∧ w = w' := by
  cases h1 : ltW a b with
  | true =>
    have HE : Hid (cmpW a b = -1) := Lib.hid (by unfold cmpW; rw [if_pos h1])
    have h2 : Op.bytesLess a.toList b.toList = true := h1
    clear h1
    go_enter Tryd.func74, Tryd.ntmps74
    go_wp2_with (go_at_call 91; refine (isNaN_any _ _).mono ?_; rintro e w' ⟨rfl, rfl⟩)
    go_ret
    exact ⟨by rw [HE.out]; rfl, rfl⟩
  | false =>
    cases h3 : ltW b a with
    | true =>
      have HE : Hid (cmpW a b = 1) := Lib.hid (by unfold cmpW; rw [h1, h3]; rfl)
      have h2 : Op.bytesLess a.toList b.toList = false := h1
      have h4 : Op.bytesLess b.toList a.toList = true := h3
      have h5 : (a.toList == b.toList) = false := by
        cases e : (a.toList == b.toList) with
        | false => rfl
        | true => exact absurd (toList_inj (by simpa using e)).symm (ltW_ne h3)
      clear h1 h3
      go_enter Tryd.func74, Tryd.ntmps74
      go_wp2_with (go_at_call 91; refine (isNaN_any _ _).mono ?_; rintro e w' ⟨rfl, rfl⟩)
      go_ret
      exact ⟨by rw [HE.out]; rfl, rfl⟩
    | false =>
      have HE : Hid (cmpW a b = 0) := Lib.hid (by unfold cmpW; rw [h1, h3]; rfl)
      have h2 : Op.bytesLess a.toList b.toList = false := h1
      have h4 : Op.bytesLess b.toList a.toList = false := h3
      have h5 : (a.toList == b.toList) = true := by rw [ltW_tri h1 h3]; simp
      clear h1 h3
      go_enter Tryd.func74, Tryd.ntmps74
      go_wp2_with (go_at_call 91; refine (isNaN_any _ _).mono ?_; rintro e w' ⟨rfl, rfl⟩)
      go_ret
      exact ⟨by rw [HE.out]; rfl, rfl⟩
theorem addCmp_any (a b : ByteArray) (v : Value) (hv : v.oneCell' = true) (w : World) :
    Calls Tryd.prog 73 #[.agg #[.string a, v], .string b] w fun e w' => e = .returned (.int .i64 (cmpW a b)) ∧ Below w.heap.size w w' := by
  go_enter Tryd.func73, Tryd.ntmps73
  go_wp2_with (go_at_call 74; refine (compare_any _ _ _).mono ?_; rintro e w' ⟨rfl, rfl⟩)
  go_ret
  exact ⟨rfl, (Below.refl _ _).alloc (Nat.le_refl _) _⟩

theorem SlI.shape {w : World} {v : Value} {L : List Int} (h : SlI w v L) : ∃ a c, v = .slice a L.length c := by obtain ⟨a, c, rfl, _⟩ := h; exact ⟨a, c, rfl⟩
/-- The place of a word among entries. -/
def PlaceAt (E : List Ent) (word : ByteArray) (k : Nat) : Prop := k ≤ E.length ∧ (∀ j, j < k → ltW (ew E j) word = true) ∧ (k < E.length → ltW (ew E k) word = false)
theorem ew_mono {E : List Ent} (hE : E.Pairwise (fun a b => ltW a.1 b.1 = true)) (word : ByteArray) : ∀ a b, a ≤ b → b < E.length → ltW (ew E b) word = true → ltW (ew E a) word = true := by
  intro a b hab hb h
  by_cases e : a = b
  · subst e; exact h
  · rw [List.pairwise_iff_getElem] at hE
    have h1 := hE a b (by omega) hb (by omega)
    have e1 : ew E a = E[a].1 := by simp [ew, List.getD_eq_getElem?_getD, show a < E.length by omega]
    have e2 : ew E b = E[b].1 := by simp [ew, List.getD_eq_getElem?_getD, hb]
    rw [e2] at h
    rw [e1]; exact ltW_trans h1 h
def Searched (E : List Ent) (word : ByteArray) (w : World) (e : Ending) (w' : World) : Prop := ∃ k, PlaceAt E word k ∧ e = .returned (.tuple #[.int .i64 (k : Nat), .bool (decide (k < E.length ∧ ew E k = word))]) ∧ Below w.heap.size w w'
theorem search_any (v : Value) (E : List Ent) (word : ByteArray) (w : World) (hs : SlE w v E) (hE : E.Pairwise (fun a b => ltW a.1 b.1 = true)) (hl : E.length ≤ 1000) :
    Calls Tryd.prog 72 #[v, .string word, .func (.func 73) #[] #[]] w (Searched E word w) := by
  have HS := Lib.hid hs
  obtain ⟨a, cap, rfl, hc, hm⟩ := hs.shape
  unfold maxLen at hm
  have HM := Lib.hid (ew_mono hE word)
  have HEnd : Hid (∀ k, PlaceAt E word k → ∀ w', Below w.heap.size w w' → ∀ b, decide (k < E.length ∧ ew E k = word) = b → Searched E word w (.returned (.tuple #[.int .i64 (k : Nat), .bool b])) w') := Lib.hid (fun k h1 w' h2 b h3 => ⟨k, h1, by rw [h3], h2⟩)
  clear hs hE
  obtain ⟨n, hn⟩ : ∃ n, E.length = n := ⟨_, rfl⟩
  have HPl : Hid (∀ k, PlaceAt E word k ↔ k ≤ n ∧ (∀ j, j < k → ltW (ew E j) word = true) ∧ (k < n → ltW (ew E k) word = false)) := Lib.hid (fun k => by unfold PlaceAt; rw [hn])
  rw [hn] at HS HM HEnd hc hl ⊢
  clear hn
  go_enter Tryd.func72, Tryd.ntmps72
  go_wp2_with fail
  go_loopg [9, 10] n (fun kx s9 s10 wr => ∃ (lo hi : Nat), s9 = .int .i64 lo ∧ s10 = .int .i64 hi ∧ lo ≤ hi ∧ hi ≤ n ∧ hi - lo ≤ kx ∧ Hid (Below w.heap.size w wr) ∧ Hid ((∀ t, t < lo → ltW (ew E t) word = true) ∧ (hi < n → ltW (ew E hi) word = false)))
  case atStart => exact ⟨0, n, rfl, rfl, Nat.zero_le _, Nat.le_refl _, by omega, Below.refl _ _, ⟨fun t ht => absurd ht (Nat.not_lt_zero _), fun h => absurd h (Nat.lt_irrefl _)⟩⟩
  case round =>
    obtain ⟨lo, hi, rfl, rfl, hlh, hin, hg, HB, I⟩ := hrel
    by_cases hlt : lo < hi
    · obtain ⟨b, off, rfl, hbl, hat⟩ := HS.out.at (by omega)
      obtain ⟨vp, c0, c1, hsl⟩ := hat ((lo + hi) / 2) (by omega)
      rw [← (bcell HB.out).1 _ _ hbl] at c0 c1
      have hv : vp.oneCell' = true := by obtain ⟨_, _, rfl, _⟩ := hsl; rfl
      have HCmp := Lib.hid (addCmp_any (ew E ((lo + hi) / 2)) word vp hv)
      have HLt := Lib.hid (cmpW_lt (ew E ((lo + hi) / 2)) word)
      obtain ⟨av, cv, rfl⟩ := SlI.shape hsl
      clear hat hsl
      obtain ⟨s, hs⟩ : ∃ s, ew E ((lo + hi) / 2) = s := ⟨_, rfl⟩
      have HW := Lib.hid hs
      rw [hs] at c0 HCmp HLt
      clear hs
      go_wp2_with fail
      refine (HCmp.out wr).mono ?_
      rintro e w1 ⟨rfl, b1⟩
      have HB1 : Hid (Below w.heap.size w w1) := HB.out.trans (b1.mono HB.out.size)
      clear b1 HCmp c0 c1 HB
      cases hw : ltW s word with
      | true =>
        have hd : decide (cmpW s word < 0) = true := decide_eq_true (HLt.out.2 hw)
        have HWt := Lib.hid hw
        clear hw HLt
        generalize cmpW s word = z at *
        go_wp2_with fail
        go_roundg (hi - ((lo + hi) / 2 + 1))
        case measure => omega
        case rel =>
          have I2 : Hid ((∀ t, t < (lo + hi) / 2 + 1 → ltW (ew E t) word = true) ∧ (hi < n → ltW (ew E hi) word = false)) := ⟨fun t ht => HM.out t ((lo + hi) / 2) (by omega) (by omega) (by rw [HW.out]; exact HWt.out), I.out.2⟩
          exact ⟨(lo + hi) / 2 + 1, hi, by rw [show ((lo : Int) + (hi : Int)) / 2 + 1 = (((lo + hi) / 2 + 1 : Nat) : Int) by omega], rfl, by omega, hin, Nat.le_refl _, HB1, I2⟩
      | false =>
        have hd : decide (cmpW s word < 0) = false := decide_eq_false (fun h => by rw [HLt.out.1 h] at hw; cases hw)
        have HWt := Lib.hid hw
        clear hw HLt
        generalize cmpW s word = z at *
        go_wp2_with fail
        go_roundg ((lo + hi) / 2 - lo)
        case measure => omega
        case rel =>
          exact ⟨lo, (lo + hi) / 2, rfl, by rw [show ((lo : Int) + (hi : Int)) / 2 = (((lo + hi) / 2 : Nat) : Int) by omega], by omega, by omega, Nat.le_refl _, HB1, ⟨I.out.1, fun _ => by rw [HW.out]; exact HWt.out⟩⟩
    · obtain rfl : hi = lo := by omega
      have HPlace : Hid (PlaceAt E word hi) := Lib.hid ((HPl.out hi).2 ⟨hin, I.out.1, I.out.2⟩)
      by_cases hn : hi < n
      · obtain ⟨b, off, rfl, hbl, hat⟩ := HS.out.at (by omega)
        obtain ⟨vp, c0, c1, hsl⟩ := hat hi hn
        rw [← (bcell HB.out).1 _ _ hbl] at c0 c1
        have hv : vp.oneCell' = true := by obtain ⟨_, _, rfl, _⟩ := hsl; rfl
        have HCmp := Lib.hid (addCmp_any (ew E hi) word vp hv)
        have HEq := Lib.hid (cmpW_eq (ew E hi) word)
        obtain ⟨av, cv, rfl⟩ := SlI.shape hsl
        clear hat hsl
        have hn' : (hi : Int) < n := by omega
        obtain ⟨s, hs⟩ : ∃ s, ew E hi = s := ⟨_, rfl⟩
        have HW := Lib.hid hs
        rw [hs] at c0 HCmp HEq
        clear hs
        go_wp2_with fail
        refine (HCmp.out wr).mono ?_
        rintro e w1 ⟨rfl, b1⟩
        have HB1 : Hid (Below w.heap.size w w1) := HB.out.trans (b1.mono HB.out.size)
        clear b1 HCmp c0 c1 HB
        by_cases hz : s = word
        · have hd : (cmpW s word == 0) = true := by simpa using HEq.out.2 hz
          have HF := Lib.hid (HEnd.out hi HPlace.out w1 HB1.out true (decide_eq_true ⟨hn, by rw [HW.out]; exact hz⟩))
          clear hz HEq
          generalize cmpW s word = z at *
          go_wp2_with fail
          go_ret2
          exact HF.out
        · have hd : (cmpW s word == 0) = false := by simpa using fun h => hz (HEq.out.1 h)
          have HF := Lib.hid (HEnd.out hi HPlace.out w1 HB1.out false (decide_eq_false (fun h => hz (by rw [← HW.out]; exact h.2))))
          clear hz HEq
          generalize cmpW s word = z at *
          go_wp2_with fail
          go_ret2
          exact HF.out
      · obtain rfl : hi = n := by omega
        have HF := Lib.hid (HEnd.out hi HPlace.out wr HB.out false (decide_eq_false (fun h => hn h.1)))
        go_wp2_with fail
        go_ret2
        exact HF.out
end Go.Proofs.YtflnbpiegcepcaaDoor

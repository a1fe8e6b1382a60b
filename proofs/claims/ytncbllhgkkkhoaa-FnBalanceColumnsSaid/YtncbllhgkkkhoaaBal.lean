/- The number of columns, the search for the smallest height. -/
import Derived.Test.YtncbllhgkkkhoaaFill
import Derived.Deep.LoopGhost
namespace Go.Proofs.Ytncbllhgkkkhoaa
open Go.RowKit
set_option maxHeartbeats 1000000
set_option maxRecDepth 100000

theorem slice_at {lo hi : Nat} {w : World} {v : Value} {L : List Int} (h : OwnI lo hi w v L) : ∃ a c, v = .slice a L.length c := by
  obtain ⟨a, c, e, _⟩ := h.sl; exact ⟨a, c, e⟩
def needI (L : List Int) (h : Int) : Int := if okH L = true ∧ 0 ≤ h ∧ h ≤ 10000 then need h L else -1

theorem columnsNeeded_any (v : Value) (L : List Int) (h : Int) (w : World) (hs : SlI w v L) :
    Calls Try.prog 18 #[v, .int .i64 h] w fun e w' => e = .returned (.int .i64 (needI L h)) ∧ Below w.heap.size w w' := by
  by_cases hok : okH L = true
  · by_cases hh : 0 ≤ h ∧ h ≤ 10000
    · have hd : decide (0 ≤ h ∧ h ≤ 10000) = true := by simpa using hh
      have he : needI L h = need h L := by unfold needI; rw [if_pos ⟨hok, hh⟩]
      have HE := Lib.hid he
      clear he
      have HOk := Lib.hid hok
      have HL := Lib.hid (endsF_len h L hh.1 hok)
      have HS := Lib.hid hs
      cases hf : fitB h L
      · have HN : Hid (need h L = -1) := Lib.hid (by unfold need; rw [hf]; rfl)
        have HF := Lib.hid hf
        clear hf
        go_enter Try.func18, Try.ntmps18
        go_wp2_with (first | (go_at_call 33; refine (validHeights_any _ L _ HS.out).mono ?_; rintro e w' ⟨rfl, rfl⟩) | (go_at_call 38; refine (within_any _ _ _ _).mono ?_; rintro e w' ⟨rfl, rfl⟩) | fail)
        refine (fillColumns_any _ L h _ HS.out HOk.out hh.1 (by omega)).mono ?_
        rintro e w1 ⟨v1, rfl, o1, b1⟩
        rw [HF.out] at o1 ⊢
        have HB := Lib.hid b1
        clear b1
        go_wp2_with fail
        go_ret
        rw [HE.out, HN.out]
        exact ⟨rfl, HB.out⟩
      · have HN : Hid (need h L = cnt h L L.length) := Lib.hid (by unfold need; rw [hf]; rfl)
        have HL := Lib.hid (HL.out hf)
        have HF := Lib.hid hf
        clear hf
        go_enter Try.func18, Try.ntmps18
        go_wp2_with (first | (go_at_call 33; refine (validHeights_any _ L _ HS.out).mono ?_; rintro e w' ⟨rfl, rfl⟩) | (go_at_call 38; refine (within_any _ _ _ _).mono ?_; rintro e w' ⟨rfl, rfl⟩) | fail)
        refine (fillColumns_any _ L h _ HS.out HOk.out hh.1 (by omega)).mono ?_
        rintro e w1 ⟨v1, rfl, o1, b1⟩
        rw [HF.out, if_pos rfl] at o1
        rw [HF.out]
        have HB := Lib.hid b1
        clear b1
        obtain ⟨a1, c1, rfl⟩ := slice_at o1
        clear o1
        go_wp2_with fail
        go_ret
        rw [HE.out, HN.out, ← HL.out]
        exact ⟨rfl, HB.out⟩
    · have hd : decide (0 ≤ h ∧ h ≤ 10000) = false := by simpa using hh
      have HE : Hid (needI L h = -1) := Lib.hid (by unfold needI; rw [if_neg (fun x => hh x.2)])
      have HS := Lib.hid hs
      clear hh
      go_enter Try.func18, Try.ntmps18
      go_wp2_with (first | (go_at_call 33; refine (validHeights_any _ L _ HS.out).mono ?_; rintro e w' ⟨rfl, rfl⟩) | (go_at_call 38; refine (within_any _ _ _ _).mono ?_; rintro e w' ⟨rfl, rfl⟩) | fail)
      go_ret
      rw [HE.out]
      exact ⟨rfl, Below.refl _ _⟩
  · have HE : Hid (needI L h = -1) := Lib.hid (by unfold needI; rw [if_neg (fun x => hok x.1)])
    have hof : okH L = false := by simpa using hok
    have HS := Lib.hid hs
    clear hok
    go_enter Try.func18, Try.ntmps18
    go_wp2_with (first | (go_at_call 33; refine (validHeights_any _ L _ HS.out).mono ?_; rintro e w' ⟨rfl, rfl⟩) | fail)
    go_ret
    rw [HE.out]
    exact ⟨rfl, Below.refl _ _⟩

theorem scolumnsNeeded_all (v : Value) (L : List Int) (h : Int) (w : World) (hs : SlI w v L) :
    Calls Try.prog 17 #[v, .int .i64 h] w fun e w' => e = .returned (.int .i64 (needI L h)) ∧ w = w' := by
  by_cases hok : okH L = true
  · by_cases hh : 0 ≤ h ∧ h ≤ 10000
    · have hd : decide (0 ≤ h ∧ h ≤ 10000) = true := by simpa using hh
      have HE : Hid (needI L h = need h L) := Lib.hid (by unfold needI; rw [if_pos ⟨hok, hh⟩])
      have HOk := Lib.hid hok
      have HS := Lib.hid hs
      go_enter Try.func17, Try.ntmps17
      go_wp2_with (first | (go_at_call 32; refine (svalidHeights_any _ L _ HS.out).mono ?_; rintro e w' ⟨rfl, rfl⟩) | (go_at_call 36; refine (inRange_any _ _ _ _).mono ?_; rintro e w' ⟨rfl, rfl⟩) | (go_at_call 37; refine (scolumnsNeeded_any _ L h _ HS.out HOk.out hh.1 (by omega)).mono ?_; rintro e w' ⟨rfl, rfl⟩))
      go_ret
      rw [HE.out]
      exact ⟨rfl, rfl⟩
    · have hd : decide (0 ≤ h ∧ h ≤ 10000) = false := by simpa using hh
      have HE : Hid (needI L h = -1) := Lib.hid (by unfold needI; rw [if_neg (fun x => hh x.2)])
      have HS := Lib.hid hs
      clear hh
      go_enter Try.func17, Try.ntmps17
      go_wp2_with (first | (go_at_call 32; refine (svalidHeights_any _ L _ HS.out).mono ?_; rintro e w' ⟨rfl, rfl⟩) | (go_at_call 36; refine (inRange_any _ _ _ _).mono ?_; rintro e w' ⟨rfl, rfl⟩))
      go_ret
      rw [HE.out]
      exact ⟨rfl, rfl⟩
  · have HE : Hid (needI L h = -1) := Lib.hid (by unfold needI; rw [if_neg (fun x => hok x.1)])
    have hof : okH L = false := by simpa using hok
    have HS := Lib.hid hs
    clear hok
    go_enter Try.func17, Try.ntmps17
    go_wp2_with (first | (go_at_call 32; refine (svalidHeights_any _ L _ HS.out).mono ?_; rintro e w' ⟨rfl, rfl⟩))
    go_ret
    rw [HE.out]
    exact ⟨rfl, rfl⟩

/-- What the literal says at a height: do that many columns suffice? -/
theorem suffices_any (B : Nat) (v : Value) (L : List Int) (c h : Nat) (w : World) (hs : SlI w v L) (hok : okH L = true) (_hc : c ≤ 8) (hh : h ≤ 100000)
    (c0 : w.cell? ⟨B, 0, none⟩ = some v) (c1 : w.cell? ⟨B + 1, 0, none⟩ = some (.int .i64 c)) (hB : B + 1 < w.heap.size) :
    Calls Try.prog 45 #[.int .i64 h, .pointer (some ⟨B, 0, none⟩), .pointer (some ⟨B + 1, 0, none⟩)] w fun e w' => e = .returned (.bool (goodH L c h)) ∧ Below w.heap.size w w' := by
  have HL := Lib.hid (endsF_len h L (by omega) hok)
  have HS := Lib.hid hs
  have HOk := Lib.hid hok
  clear hok
  have hsv := hs
  obtain ⟨av, cv, rfl, _, _, _⟩ := hsv
  cases hf : fitB h L
  · have HG : Hid (goodH L c h = false) := Lib.hid (by unfold goodH; rw [hf]; rfl)
    have HF := Lib.hid hf
    clear hf hs
    go_enter Try.func45, Try.ntmps45
    go_wp2_with fail
    refine (fillColumns_any _ L h _ HS.out HOk.out (by omega) (by omega)).mono ?_
    rintro e w1 ⟨v1, rfl, o1, b1⟩
    rw [HF.out]
    have HB := Lib.hid b1
    clear b1 o1
    go_wp2_with fail
    go_ret
    rw [HG.out]
    exact ⟨rfl, HB.out⟩
  · have HL := Lib.hid (HL.out hf)
    have HG : Hid (goodH L c h = decide (cnt h L L.length ≤ c)) := Lib.hid (by unfold goodH; rw [hf]; rfl)
    have HF := Lib.hid hf
    clear hf hs
    go_enter Try.func45, Try.ntmps45
    go_wp2_with fail
    refine (fillColumns_any _ L h _ HS.out HOk.out (by omega) (by omega)).mono ?_
    rintro e w1 ⟨v1, rfl, o1, b1⟩
    rw [HF.out, if_pos rfl] at o1
    rw [HF.out]
    have c1' : w1.cell? ⟨B + 1, 0, none⟩ = some (.int .i64 c) := (b1.cell (p := ⟨B + 1, 0, none⟩) hB).trans c1
    have HB := Lib.hid b1
    clear b1 c1
    obtain ⟨a1, k1, rfl⟩ := slice_at o1
    rw [HL.out]
    clear o1
    generalize cnt h L L.length = m at *
    by_cases hm : m ≤ c
    · have hd : decide (m ≤ c) = true := by simpa using hm
      go_wp2_with fail
      go_ret
      rw [HG.out]
      exact ⟨by simp; omega, HB.out⟩
    · have hd : decide (m ≤ c) = false := by simpa using hm
      go_wp2_with fail
      go_ret
      rw [HG.out]
      exact ⟨by simp; omega, HB.out⟩

/-- sort.Search over a function that only makes memory. -/
theorem search_any (g : Nat) (cb : Array Value) (n : Nat) (p : Nat → Bool) (w : World) (eg : ∀ args w, (callFunc g args).run Try.prog w = .ok (.enter g args) w) (hn : n ≤ 1000000)
    (hf : ∀ W, Below w.heap.size w W → ∀ i : Nat, i < n → Calls Try.prog g (#[.int .i64 i] ++ cb) W fun e w' => e = .returned (.bool (p i)) ∧ Below W.heap.size W w')
    (hmono : ∀ a b, a ≤ b → p a = true → p b = true) :
    Calls Try.prog 44 #[.int .i64 n, .func (.func g) #[] cb] w fun e w' => e = .returned (.int .i64 (least p n)) ∧ Below w.heap.size w w' := by
  have HF := Lib.hid hf
  have M := Lib.hid hmono
  clear hf hmono
  have HU : Hid (∀ m, m ≤ n → (∀ h, h < m → p h = false) → (m < n → p m = true) → least p n = m) := Lib.hid (fun m => least_uniq p n m)
  go_enter Try.func44, Try.ntmps44
  go_wp2_with fail
  go_loopg [5, 6] n (fun kx s5 s6 wr => ∃ (lo hi : Nat), s5 = .int .i64 lo ∧ s6 = .int .i64 hi ∧ lo ≤ hi ∧ hi ≤ n ∧ hi - lo ≤ kx ∧ Hid (Below w.heap.size w wr) ∧ Hid ((∀ t, t < lo → p t = false) ∧ (hi < n → p hi = true)))
  case atStart => exact ⟨0, n, rfl, rfl, Nat.zero_le _, Nat.le_refl _, by omega, Below.refl _ _, ⟨fun t ht => absurd ht (Nat.not_lt_zero _), fun h => absurd h (Nat.lt_irrefl _)⟩⟩
  case round =>
    obtain ⟨lo, hi, rfl, rfl, hlh, hin, hg, HB, I⟩ := hrel
    by_cases hlt : lo < hi
    · have hc := HF.out wr HB.out ((lo + hi) / 2) (by omega)
      rw [show (((lo + hi) / 2 : Nat) : Int) = ((lo : Int) + (hi : Int)) / 2 by omega] at hc
      cases hp : p ((lo + hi) / 2) <;> rw [hp] at hc
      · have HP := Lib.hid hp
        clear hp
        go_wp2_with fail
        refine hc.mono ?_
        rintro e w1 ⟨rfl, b1⟩
        have HB1 : Hid (Below w.heap.size w w1) := HB.out.trans (b1.mono HB.out.size)
        clear b1 hc
        go_wp2_with fail
        go_roundg (hi - ((lo + hi) / 2 + 1))
        case measure => omega
        case rel =>
          have I2 : Hid ((∀ t, t < (lo + hi) / 2 + 1 → p t = false) ∧ (hi < n → p hi = true)) := ⟨fun t ht => (by
            cases h : p t with
            | false => rfl
            | true => have := M.out t ((lo + hi) / 2) (by omega) h; rw [HP.out] at this; cases this), I.out.2⟩
          exact ⟨(lo + hi) / 2 + 1, hi, by rw [show ((lo : Int) + (hi : Int)) / 2 + 1 = (((lo + hi) / 2 + 1 : Nat) : Int) by omega], rfl, by omega, hin, Nat.le_refl _, HB1, I2⟩
      · have HP := Lib.hid hp
        clear hp
        go_wp2_with fail
        refine hc.mono ?_
        rintro e w1 ⟨rfl, b1⟩
        have HB1 : Hid (Below w.heap.size w w1) := HB.out.trans (b1.mono HB.out.size)
        clear b1 hc
        go_wp2_with fail
        go_roundg ((lo + hi) / 2 - lo)
        case measure => omega
        case rel =>
          exact ⟨lo, (lo + hi) / 2, rfl, by rw [show ((lo : Int) + (hi : Int)) / 2 = (((lo + hi) / 2 : Nat) : Int) by omega], by omega, by omega, Nat.le_refl _, HB1, ⟨I.out.1, fun _ => HP.out⟩⟩
    · obtain rfl : hi = lo := by omega
      have HE := Lib.hid (HU.out hi hin I.out.1 I.out.2)
      go_wp2_with fail
      go_ret
      rw [HE.out]
      exact ⟨rfl, HB.out⟩
end Go.Proofs.Ytncbllhgkkkhoaa

/- The program's MergeIndex. -/
import Derived.Test.YtflnbpiegcepcaaDoorIdxVal
import Derived.Test.YtflnbpiegcepcaaDoorIdxCol
namespace Go.Proofs.YtflnbpiegcepcaaDoor
open Go.RowKit
set_option maxHeartbeats 4000000
set_option maxRecDepth 100000
set_option linter.unusedVariables false

theorem slI_block {w : World} {v : Value} {L : List Int} (h : SlI w v L) (hn : L ≠ []) : ∃ b, v.ownBlock = some b ∧ b < w.heap.size := by
  obtain ⟨a, cap, rfl, _, _, h3⟩ := h
  rcases h3 with rfl | ⟨b, off, rfl, hb, _⟩
  · exact absurd rfl hn
  · exact ⟨b, rfl, hb⟩
theorem mergeIndex_any (va vb : Value) (a b : List Ent) (w : World) (ha : SlE w va a) (hb : SlE w vb b) (hza : ∀ i, i < a.length → (ew a i).size ≤ maxLen) (hzb : ∀ i, i < b.length → (ew b i).size ≤ maxLen) (hT : Pow10 w) :
    Calls Tryd.prog 23 #[va, vb] w (GaveE (mrgS a b) w) := by
  have HA := Lib.hid ha
  have HB := Lib.hid hb
  have HVA := Lib.hid (fun w' (h : Below w.heap.size w w') => validIndex_any va a w' (ha.below h) hza (hT.below h))
  have HVB := Lib.hid (fun w' (h : Below w.heap.size w w') => validIndex_any vb b w' (hb.below h) hzb (hT.below h))
  have HT := Lib.hid (fun w' (h : Below w.heap.size w w') => hT.below h)
  obtain ⟨aa, ca, rfl, la1, la2⟩ := ha.shape
  obtain ⟨ab, cb, rfl, lb1, lb2⟩ := hb.shape
  unfold maxLen at la2 lb2
  clear hza hzb hT ha hb
  cases oa : okI a with
  | false =>
    rw [mrgS_no1 oa]
    rw [oa] at HVA
    have H1 := Lib.hid (HVA.out w (Below.refl _ _))
    clear HVA HVB HA HB HT oa
    go_enter Tryd.func23, Tryd.ntmps23
    go_wp2_with fail
    refine H1.out.mono ?_
    rintro e w1 ⟨rfl, b1⟩
    go_wp2_with fail
    go_ret
    exact gaveE_nil b1
  | true =>
  cases ob : okI b with
  | false =>
    rw [mrgS_no2 ob]
    rw [oa] at HVA
    rw [ob] at HVB
    have H1 := Lib.hid (HVA.out w (Below.refl _ _))
    clear HVA HA HB HT ob
    go_enter Tryd.func23, Tryd.ntmps23
    go_wp2_with fail
    refine H1.out.mono ?_
    rintro e w1 ⟨rfl, b1⟩
    go_wp2_with fail
    refine (HVB.out w1 b1).mono ?_
    rintro e w2 ⟨rfl, b2⟩
    go_wp2_with fail
    go_ret
    exact gaveE_nil (b1.trans (b2.mono b1.size))
  | true =>
    rw [oa] at HVA
    rw [ob] at HVB
    have H1 := Lib.hid (HVA.out w (Below.refl _ _))
    have la40 := (okI_mem oa).1
    have lb40 := (okI_mem ob).1
    obtain ⟨G, hG⟩ : ∃ G : Nat → List Ent, ∀ m, G m = ((a ++ b).take m).foldl addE [] := ⟨_, fun _ => rfl⟩
    have hG0 : G 0 = [] := by rw [hG]; rfl
    have HGN : Hid (G (a.length + b.length) = mrgF a b) := Lib.hid (by rw [hG, ← List.length_append, List.take_length]; rfl)
    have HG := Lib.hid (fun m => by have := foldE_at oa ob m; rw [← hG] at this; exact this)
    have HSt : Hid (∀ m, m < a.length + b.length → G (m + 1) = addP (G m) (ew (a ++ b) m) (ep (a ++ b) m)) := Lib.hid (fun m hm => by rw [hG, hG, foldE_take _ _ _ (by rw [List.length_append]; exact hm)])
    have HPg : Hid (∀ m, m < a.length + b.length → ep (a ++ b) m ≠ [] ∧ (ep (a ++ b) m).length ≤ 40) := Lib.hid (fun m hm => pages_at oa ob (by rw [List.length_append]; exact hm))
    have HEA : Hid (∀ k, k < a.length → ew (a ++ b) (0 + k) = ew a k ∧ ep (a ++ b) (0 + k) = ep a k) := Lib.hid (fun k hk => by rw [Nat.zero_add]; exact ew_left hk)
    have HEB : Hid (∀ k, k < b.length → ew (a ++ b) (a.length + k) = ew b k ∧ ep (a ++ b) (a.length + k) = ep b k) := Lib.hid (fun k hk => ew_right)
    have HWd : Hid (∀ i, i < (mrgF a b).length → (ew (mrgF a b) i).size ≤ maxLen) := Lib.hid (words_at (fun e he => okW_size (words_ok oa ob e he)))
    have HRes : Hid (mrgS a b = if okI (mrgF a b) = true then mrgF a b else []) := Lib.hid (by unfold mrgS; rw [oa, ob]; rfl)
    clear HVA oa ob hG
    generalize a ++ b = C at *
    generalize mrgF a b = F at *
    generalize mrgS a b = S at *
    obtain ⟨na, hna⟩ : ∃ na, a.length = na := ⟨_, rfl⟩
    obtain ⟨nb, hnb⟩ : ∃ nb, b.length = nb := ⟨_, rfl⟩
    have HNa := Lib.hid hna
    have HNb := Lib.hid hnb
    rw [hna] at HA HGN HSt HPg HEA HEB la1 la40 H1 ⊢
    rw [hnb] at HB HGN HSt HPg HEB HVB lb1 lb40 ⊢
    clear hna hnb
    go_enter Tryd.func23, Tryd.ntmps23
    go_wp2_with fail
    refine H1.out.mono ?_
    rintro e w1 ⟨rfl, b1⟩
    go_wp2_with fail
    refine (HVB.out w1 b1).mono ?_
    rintro e w2 ⟨rfl, b2⟩
    have B2 := Lib.hid (b1.trans (b2.mono b1.size))
    have hs2 : w.heap.size ≤ w2.heap.size := B2.out.size
    clear H1 HVB b1 b2
    have HW : Hid (Below w.heap.size w (w2.alloc (.cells #[.slice aa na ca, .slice ab nb cb] 35))) := Lib.hid (B2.out.alloc hs2 _)
    have HC0 : Hid ((w2.alloc (.cells #[.slice aa na ca, .slice ab nb cb] 35)).cell? ⟨w2.heap.size, 0, none⟩ = some (.slice aa na ca)) := Lib.hid (by simp [go_sem])
    have HC1 : Hid ((w2.alloc (.cells #[.slice aa na ca, .slice ab nb cb] 35)).cell? ⟨w2.heap.size, 1, none⟩ = some (.slice ab nb cb)) := Lib.hid (by simp [go_sem])
    have hgl : w2.heap.size < (w2.alloc (.cells #[.slice aa na ca, .slice ab nb cb] 35)).heap.size := by simp
    have HE0 : Hid (OwnE (w2.alloc (.cells #[.slice aa na ca, .slice ab nb cb] 35)).heap.size (w2.alloc (.cells #[.slice aa na ca, .slice ab nb cb] 35)).heap.size (w2.alloc (.cells #[.slice aa na ca, .slice ab nb cb] 35)) (.slice none 0 0) (G 0)) := Lib.hid (by rw [hG0]; exact OwnE.nil _ _)
    clear hG0
    go_wp2_with fail
    generalize w2.alloc (.cells #[.slice aa na ca, .slice ab nb cb] 35) = w3 at *
    generalize w2.heap.size = g at *
    clear B2
    go_loopw [5, 7, 9, 22, 26, 27, 28] (fun v5 u7 u9 i u26 u27 u28 wr => ∃ (j m : Nat) (vv : Value), j ≤ 2 ∧ i = .int .i64 j ∧ m = (if j = 0 then 0 else if j = 1 then na else na + nb) ∧ vv = v5 ∧ Hid (OwnE w3.heap.size wr.heap.size wr vv (G m)) ∧ Hid (Below w3.heap.size w3 wr)) (fun _ _ _ i _ _ _ _ => 2 - (intOf i).toNat)
    case atStart => exact ⟨0, 0, _, by omega, rfl, rfl, rfl, HE0, Lib.hid (Below.refl _ _)⟩
    case round =>
      clear HE0
      obtain ⟨j, m, vv, hj, rfl, hm, rfl, HO, HBr⟩ := hrel
      have hs3 : w.heap.size ≤ w3.heap.size := HW.out.size
      by_cases hlt : j < 2
      · have HL : ∃ (aL : Option Addr) (nL cL : Nat) (L : List Ent), wr.cell? ⟨g, j, none⟩ = some (.slice aL nL cL) ∧ Hid (SlE w (.slice aL nL cL) L) ∧ Hid (L.length = nL) ∧ nL ≤ 40 ∧ nL ≤ cL ∧ cL ≤ 9223372036854775807 ∧ m + nL = (if j + 1 = 0 then 0 else if j + 1 = 1 then na else na + nb) ∧ Hid (∀ k, k < nL → ew C (m + k) = ew L k ∧ ep C (m + k) = ep L k) ∧ m + nL ≤ na + nb := by
          rcases (by omega : j = 0 ∨ j = 1) with rfl | rfl
          · refine ⟨aa, na, ca, a, ((bcell HBr.out).1 _ _ hgl).trans HC0.out, HA, HNa, la40, la1, la2, by rw [hm]; simp, ?_, by rw [hm]; simp⟩
            rw [if_pos rfl] at hm; subst hm; exact HEA
          · refine ⟨ab, nb, cb, b, ((bcell HBr.out).1 _ _ hgl).trans HC1.out, HB, HNb, lb40, lb1, lb2, by rw [hm]; simp, ?_, by rw [hm]; simp⟩
            have e : m = na := by rw [hm]; simp
            subst e; exact HEB
        obtain ⟨aL, nL, cL, L, cj, HL, HLl, hn40, hnc, hcm, hnext, HEL, hle⟩ := HL
        have hbw : wr.heap.size = wr.heap.size := rfl
        clear hm HA HB HNa HNb HEA HEB HC0 HC1 la1 la2 lb1 lb2 la40 lb40 hbw
        have hdj : decide ((j : Int) < 2) = true := decide_eq_true (by omega)
        go_wp2_with fail
        clear cj hdj
        go_loopw [5, 9, 28] (fun v5 u9 i wr2 => ∃ (k : Nat) (vv2 : Value), k ≤ nL ∧ i = .int .i64 k ∧ vv2 = v5 ∧ Hid (OwnE w3.heap.size wr2.heap.size wr2 vv2 (G (m + k))) ∧ Hid (Below w3.heap.size w3 wr2)) (fun _ _ i _ => nL - (intOf i).toNat)
        case atStart => exact ⟨0, _, by omega, rfl, rfl, by rw [Nat.add_zero]; exact HO, HBr⟩
        case round =>
          clear HO HBr
          obtain ⟨k, vv2, hk, rfl, rfl, HO, HBr⟩ := hrel
          by_cases hlk : k < nL
          · have HBW : Hid (Below w.heap.size w wr) := Lib.hid (HW.out.trans (HBr.out.mono hs3))
            have hbs : w3.heap.size ≤ wr.heap.size := HBr.out.size
            obtain ⟨b0, off, rfl, hbl, hat⟩ := HL.out.at (by omega)
            obtain ⟨vp, c0, c1, hsl⟩ := hat k hlk
            rw [← (bcell HBW.out).1 _ _ hbl] at c0 c1
            obtain ⟨e1, e2⟩ := HEL.out k hlk
            obtain ⟨p1, p2⟩ := HPg.out (m + k) (by omega)
            have HS := Lib.hid (HSt.out (m + k) (by omega))
            obtain ⟨g1, g2, g3⟩ := HG.out (m + k)
            rw [e2] at p1 p2
            rw [e1, e2] at HS
            obtain ⟨bp, hbp, hbpl⟩ := slI_block hsl p1
            obtain ⟨ap, cp, hsh⟩ := SlI.shape hsl
            subst hsh
            have hbW : Below wr.heap.size wr (wr.alloc (.cells #[.string (ew L k), .slice ap (ep L k).length cp] 40)) := (Below.refl _ _).alloc (Nat.le_refl _) _
            have HC := Lib.hid (addPages_any w3.heap.size vv2 (G (m + k)) (ew L k) (.slice ap (ep L k).length cp) (ep L k) (wr.alloc (.cells #[.string (ew L k), .slice ap (ep L k).length cp] 40))
              ((HO.out.below hbW).mono (Nat.le_refl _) (by simp) (Nat.le_refl _)) ((hsl.below HBW.out).below hbW) p1 g1 (by omega) (fun e he => by have := g3 e he; omega) (by omega) (by simp; omega)
              (.inr (fun e => by
                obtain ⟨X, _, hrow, _⟩ := HO.out
                rw [hbp] at e
                have := (hrow.lt bp e.symm).1
                omega)))
            have HBA : Hid (Below w3.heap.size w3 (wr.alloc (.cells #[.string (ew L k), .slice ap (ep L k).length cp] 40))) := Lib.hid (HBr.out.alloc hbs _)
            clear hat hsl e1 e2 p1 p2 g1 g2 g3 hbp hbpl hbW HO HBr HBW
            generalize ew L k = s at *
            generalize ep L k = P at *
            go_wp2_with fail
            refine HC.out.mono ?_
            rintro e w4 ⟨v4, rfl, o4, b4⟩
            have HO : Hid (OwnE w3.heap.size w4.heap.size w4 v4 (G (m + (k + 1)))) := Lib.hid (by rw [← Nat.add_assoc, HS.out]; exact o4)
            have HBr : Hid (Below w3.heap.size w3 w4) := Lib.hid (HBA.out.trans b4)
            clear HC HBA o4 b4 HS c0 c1
            go_wp2_with fail
            go_roundw
            case rel => exact ⟨k + 1, v4, by omega, by go_num, rfl, HO, HBr⟩
            case measure => simp [intOf]; omega
          · obtain rfl : k = nL := by omega
            clear HL HEL HLl
            go_wp2_with fail
            go_roundw
            case rel => exact ⟨j + 1, m + k, _, by omega, by go_num, hnext, rfl, HO, HBr⟩
            case measure => simp [intOf]; omega
      · obtain rfl : j = 2 := by omega
        have hm : m = na + nb := by rw [hm]; simp
        subst hm
        have HB3 : Hid (Below w.heap.size w wr) := Lib.hid (HW.out.trans (HBr.out.mono hs3))
        have HF : Hid (OwnE w3.heap.size wr.heap.size wr vv F) := Lib.hid (by rw [← HGN.out]; exact HO.out)
        have HV := Lib.hid (validIndex_any vv F wr HF.out.sl HWd.out (HT.out wr HB3.out))
        clear HO HBr HA HB HNa HNb HEA HEB HC0 HC1 HT HW HGN HG HSt HPg HWd
        cases ok : okI F with
        | false =>
          rw [ok] at HV HRes
          have HRes : Hid (S = []) := Lib.hid (by rw [HRes.out]; simp)
          go_wp2_with fail
          refine HV.out.mono ?_
          rintro e w5 ⟨rfl, b5⟩
          go_wp2_with fail
          go_ret
          rw [HRes.out]
          exact gaveE_nil (HB3.out.trans (b5.mono HB3.out.size))
        | true =>
          rw [ok] at HV HRes
          have HRes : Hid (S = F) := Lib.hid (by rw [HRes.out]; simp)
          go_wp2_with fail
          refine HV.out.mono ?_
          rintro e w5 ⟨rfl, b5⟩
          have HE : Hid (GaveE F w (.returned vv) w5) := Lib.hid ⟨_, rfl, (HF.out.below b5).mono hs3 b5.size (Nat.le_refl _), HB3.out.trans (b5.mono HB3.out.size)⟩
          go_wp2_with fail
          go_ret
          rw [HRes.out]
          exact HE.out
end Go.Proofs.YtflnbpiegcepcaaDoor

/- Valid indexes. -/
import Derived.Test.YtflnbpiegcepcaaDoorPagI
import Derived.Test.YtflnbpiegcepcaaDoorIdxOk
import Derived.Test.YtflnbpiegcepcaaDoorIdxWord
import Derived.Test.YtflnbpiegcepcaaDoorIdxSrch
import Derived.Deep.RegionHeld3
import Derived.BigQuiet
import Derived.StillTailTactics
namespace Go.Proofs.YtflnbpiegcepcaaDoor
open Go.RowKit
set_option maxHeartbeats 4000000
set_option maxRecDepth 100000
set_option linter.unusedVariables false

theorem wpStill_skip {P : Program} {ops : Array Oper} {w : World} {Q : Act → Prop} {a : Act} {o : Oper} {rest : List Oper} (h : Region.wanted o (yielded ops a.tmps) = false) (h2 : wpStill P ops w Q rest (a.put o.dst undef)) : wpStill P ops w Q (o :: rest) a := by
  rw [wpStill, if_neg (by rw [h]; simp)]; exact h2
theorem wpStill_want {P : Program} {ops : Array Oper} {w : World} {Q : Act → Prop} {a : Act} {o : Oper} {rest : List Oper} (h : Region.wanted o (yielded ops a.tmps) = true) (h2 : ∀ K : Act → Prop, (∀ a, wpStill P ops w Q rest a → K a) → o.still P a w K) : wpStill P ops w Q (o :: rest) a :=
  wpStill_step (fun K hK => by rw [if_pos h]; exact h2 K hK)
attribute [local irreducible] wpStill
theorem validIndex_any (v : Value) (E : List Ent) (w : World) (h : SlE w v E) (hz : ∀ i, i < E.length → (ew E i).size ≤ maxLen) (hT : Pow10 w) :
    Calls Tryd.prog 48 #[v] w fun e w' => e = .returned (.bool (okI E)) ∧ Below w.heap.size w w' := by
  have HS := Lib.hid h
  have HZ := Lib.hid hz
  obtain ⟨a, cap, rfl, hc, hm⟩ := h.shape
  unfold maxLen at hm
  have HT := Lib.hid (fun w' (b : Below w.heap.size w w') => hT.below b)
  have HBad := Lib.hid (fun i (hi : i < E.length) (hn : ¬ okEnt E i) => okI_bad hi hn)
  have HGood := Lib.hid (okI_end E)
  clear h hz hT
  obtain ⟨n, hn⟩ : ∃ n, E.length = n := ⟨_, rfl⟩
  rw [hn] at HS HZ HBad HGood hc ⊢
  clear hn
  generalize okI E = ok at *
  go_enter Tryd.func48, Tryd.ntmps48
  go_wp2_with fail
  go_loopw [3, 4, 7] (fun u3 u4 i wr => ∃ k : Nat, k ≤ n ∧ i = .int .i64 k ∧ Hid (Below w.heap.size w wr) ∧ Hid (∀ j, j < k → okEnt E j)) (fun _ _ i _ => n - (intOf i).toNat)
  case atStart => exact ⟨0, by omega, rfl, Lib.hid (Below.refl _ _), Lib.hid (fun j hj => by omega)⟩
  case round =>
    obtain ⟨k, hk, rfl, HB, HK⟩ := hrel
    by_cases hlt : k < n
    · obtain ⟨b, off, rfl, hbl, hat⟩ := (HS.out.below HB.out).at (by omega)
      obtain ⟨vp, c0, c1, hsl⟩ := hat k hlt
      have HNext : Hid (okEnt E k → ∀ i, i < k + 1 → okEnt E i) := Lib.hid (fun h i hi => by
        by_cases e : i = k
        · subst e; exact h
        · exact HK.out i (by omega))
      have HBk := Lib.hid (HBad.out k hlt)
      have HVW := Lib.hid (fun w' => validWord_any (ew E k) w' (HZ.out k hlt))
      have hbs := HB.out.size
      unfold okEnt at HNext HBk
      obtain ⟨aa, cc, rfl⟩ := SlI.shape hsl
      have HBW : Hid (Below wr.heap.size wr (wr.alloc (.cells #[.string (ew E k), .slice aa (ep E k).length cc] 40))) := Lib.hid ((Below.refl _ _).alloc (Nat.le_refl _) _)
      have HBE : Hid (Below w.heap.size w (wr.alloc (.cells #[.string (ew E k), .slice aa (ep E k).length cc] 40))) := Lib.hid (HB.out.trans (HBW.out.mono hbs))
      have HEmp := Lib.hid (fmtP_empty (ep E k))
      have HFmt : Hid (∀ x, Below (wr.alloc (.cells #[.string (ew E k), .slice aa (ep E k).length cc] 40)).heap.size (wr.alloc (.cells #[.string (ew E k), .slice aa (ep E k).length cc] 40)) x → Calls Tryd.prog 13 #[.slice aa (ep E k).length cc] x fun e w'' => e = .returned (.string (fmtP (ep E k))) ∧ Below x.heap.size x w'') :=
        Lib.hid (fun x hx => formatPages_any _ (ep E k) x ((hsl.below HBW.out).below hx) (HT.out x (HBE.out.trans (hx.mono HBE.out.size))))
      have hk1 : ∀ j, j + 1 = k → ((k : Int) - 1 = (j : Int) ∧ IntKind.i64.wrap ((k : Int) - 1) = (j : Int)) := fun j hj => ⟨by omega, by rw [show (k : Int) - 1 = (j : Int) by omega]; exact IntWalk.i64_in _ (by omega)⟩
      have HVQ : Hid (∀ (W : World) (m : Nat), Calls Tryd.prog 53 #[.string (ew E k)] (W.drewN m) fun e w'' => e = .returned (.bool (okW (ew E k))) ∧ ∃ q, w'' = W.drewN q) := Lib.hid (fun W m => (HVW.out (W.drewN m)).mono fun _ _ ⟨he, hw⟩ => ⟨he, m, hw.symm⟩)
      cases hw : okW (ew E k) with
      | false =>
        rw [hw] at HVQ
        have HN := HBk.out (fun h => by rw [hw] at h; cases h.1)
        subst HN
        clear HBk HNext HFmt HEmp hw hat hsl HBW HVW
        go_wp2_with fail
        go_quiet ((go_at_call 53; exact HVQ.out _ _))
        go_wp2_with fail
        go_ret
        exact ⟨rfl, bel_drewN HBE.out _⟩
      | true =>
        rw [hw] at HVQ HVW
        by_cases hk0 : 0 < k
        · obtain ⟨j, rfl⟩ : ∃ j, k = j + 1 := ⟨k - 1, by omega⟩
          obtain ⟨vq, e0, _, _⟩ := hat j (by omega)
          obtain ⟨hj1, hj2⟩ := hk1 j rfl
          rw [Nat.add_sub_cancel] at HNext HBk
          cases hlw : ltW (ew E j) (ew E (j + 1)) with
          | false =>
            have HN := HBk.out (fun h => by have := h.2.2.2 (by omega); rw [hlw] at this; cases this)
            subst HN
            have hlw' : Op.bytesLess (ew E j).toList (ew E (j + 1)).toList = false := hlw
            clear HBk HNext HFmt HEmp hw hat hsl HBW HVW hlw
            generalize ew E (j + 1) = s at *
            generalize ew E j = t at *
            go_wp2_with fail
            go_quiet ((go_at_call 53; exact HVQ.out _ _))
            go_wp2_with fail
            go_ret
            exact ⟨rfl, bel_drewN HBE.out _⟩
          | true =>
            have hlw' : Op.bytesLess (ew E j).toList (ew E (j + 1)).toList = true := hlw
            have hby : b < (wr.alloc (.cells #[.string (ew E (j + 1)), .slice aa (ep E (j + 1)).length cc] 40)).heap.size := by simp; omega
            have HNx : Hid (okPg (ep E (j + 1)) = true ∧ ep E (j + 1) ≠ [] → ∀ i, i < j + 1 + 1 → okEnt E i) := Lib.hid (fun h => HNext.out ⟨hw, h.1, h.2, fun _ => hlw⟩)
            have HBd : Hid (¬ (okPg (ep E (j + 1)) = true ∧ ep E (j + 1) ≠ []) → ok = false) := Lib.hid (fun h => HBk.out (fun h2 => h ⟨h2.2.1, h2.2.2.1⟩))
            have y0 : (wr.alloc (.cells #[.string (ew E (j + 1)), .slice aa (ep E (j + 1)).length cc] 40)).cell? ⟨b, off + j * 2, none⟩ = some (.string (ew E j)) := ((bcell HBW.out).1 _ _ hbl).trans e0
            clear HBk HNext hw hat hsl HBW HVQ hlw hk1 HK
            generalize ew E (j + 1) = s at *
            generalize ew E j = t at *
            generalize (ep E (j + 1)).length = l at *
            generalize fmtP (ep E (j + 1)) = r at *
            have hj3 : IntKind.i64.wrap (j : Int) = (j : Int) := IntWalk.i64_in _ (by omega)
            have hj4 : (0 : Int) ≤ (j : Int) := by omega
            have hj5 : (j : Int) < (n : Int) := by omega
            by_cases hr : okPg (ep E (j + 1)) = true ∧ ep E (j + 1) ≠ []
            · have hre : r.toList.isEmpty = false := by
                cases hq : r.toList.isEmpty with
                | false => rfl
                | true => exact absurd hr (HEmp.out.1 (toList_inj (by rw [List.isEmpty_iff.1 hq, Lib.toList_data])))
              have HN := Lib.hid (HNx.out hr)
              clear HNx HBd HEmp hr
              have x0 : (wr.alloc (.cells #[.string s, .slice aa l cc] 40)).cell? ⟨wr.heap.size, 0, none⟩ = some (.string s) := by simp [go_sem]
              have x1 : (wr.alloc (.cells #[.string s, .slice aa l cc] 40)).cell? ⟨wr.heap.size, 1, none⟩ = some (.slice aa l cc) := by simp [go_sem]
              have hgl : wr.heap.size < (wr.alloc (.cells #[.string s, .slice aa l cc] 40)).heap.size := by simp
              go_wp2_with fail
              generalize wr.alloc (.cells #[.string s, .slice aa l cc] 40) = W2 at *
              generalize wr.heap.size = g at *
              have HPc : Hid (∀ x, Below W2.heap.size W2 x → (x.cell? ⟨g, 0, none⟩ = some (.string s) ∧ x.cell? ⟨g, 1, none⟩ = some (.slice aa l cc)) ∧ x.cell? ⟨b, off+j*2, none⟩ = some (.string t)) := Lib.hid (fun x hx => ⟨⟨((bcell hx).1 _ _ hgl).trans x0, ((bcell hx).1 _ _ hgl).trans x1⟩, ((bcell hx).1 _ _ hby).trans y0⟩)
              have p0 : Hid (Below W2.heap.size W2 W2.drew) := Lib.hid ((Below.refl _ _).drew)
              have hN : Hid (Below W2.heap.size W2 W2.drew) ∧ ((W2.drew.cell? ⟨g, 0, none⟩ = some (.string s) ∧ W2.drew.cell? ⟨g, 1, none⟩ = some (.slice aa l cc)) ∧ W2.drew.cell? ⟨b, off+j*2, none⟩ = some (.string t)) := ⟨p0, HPc.out _ p0.out⟩
              clear x0 x1
              go_region_held3 (fun w' => Hid (Below W2.heap.size W2 w') ∧ ((w'.cell? ⟨g, 0, none⟩ = some (.string s) ∧ w'.cell? ⟨g, 1, none⟩ = some (.slice aa l cc)) ∧ w'.cell? ⟨b, off+j*2, none⟩ = some (.string t))) (exact hN)
                (first
                  | (go_at_call 53; refine (HVW.out _).mono ?_; rintro e w8 ⟨rfl, rfl⟩; have hN := ‹Hid (Below W2.heap.size W2 _) ∧ _›)
                  | (go_at_call 13; refine (HFmt.out _ (And.left ‹Hid (Below W2.heap.size W2 _) ∧ _›).out).mono ?_; rintro e w9 ⟨rfl, b9⟩; have hp := (And.left ‹Hid (Below W2.heap.size W2 _) ∧ _›).out.trans (b9.mono (And.left ‹Hid (Below W2.heap.size W2 _) ∧ _›).out.size); have hN : Hid (Below W2.heap.size W2 w9) ∧ ((w9.cell? ⟨g, 0, none⟩ = some (.string s) ∧ w9.cell? ⟨g, 1, none⟩ = some (.slice aa l cc)) ∧ w9.cell? ⟨b, off+j*2, none⟩ = some (.string t)) := ⟨Lib.hid hp, HPc.out _ hp⟩))
              all_goals
                have HEnd : Hid (Below w.heap.size w w9) := Lib.hid (HBE.out.trans (hp.mono HBE.out.size))
                clear HPc c0 c1 hN HFmt HVW
                go_wp2_with fail
                go_roundw
                case rel => exact ⟨j + 1 + 1, by omega, by go_num, HEnd, HN⟩
                case measure => simp [intOf]; omega
            · have hre : r.toList.isEmpty = true := by rw [HEmp.out.2 hr, Lib.toList_data]; rfl
              have HN := HBd.out hr
              subst HN
              clear HNx HBd HEmp hr
              have x0 : (wr.alloc (.cells #[.string s, .slice aa l cc] 40)).cell? ⟨wr.heap.size, 0, none⟩ = some (.string s) := by simp [go_sem]
              have x1 : (wr.alloc (.cells #[.string s, .slice aa l cc] 40)).cell? ⟨wr.heap.size, 1, none⟩ = some (.slice aa l cc) := by simp [go_sem]
              have hgl : wr.heap.size < (wr.alloc (.cells #[.string s, .slice aa l cc] 40)).heap.size := by simp
              go_wp2_with fail
              generalize wr.alloc (.cells #[.string s, .slice aa l cc] 40) = W2 at *
              generalize wr.heap.size = g at *
              have HPc : Hid (∀ x, Below W2.heap.size W2 x → (x.cell? ⟨g, 0, none⟩ = some (.string s) ∧ x.cell? ⟨g, 1, none⟩ = some (.slice aa l cc)) ∧ x.cell? ⟨b, off+j*2, none⟩ = some (.string t)) := Lib.hid (fun x hx => ⟨⟨((bcell hx).1 _ _ hgl).trans x0, ((bcell hx).1 _ _ hgl).trans x1⟩, ((bcell hx).1 _ _ hby).trans y0⟩)
              have p0 : Hid (Below W2.heap.size W2 W2.drew) := Lib.hid ((Below.refl _ _).drew)
              have hN : Hid (Below W2.heap.size W2 W2.drew) ∧ ((W2.drew.cell? ⟨g, 0, none⟩ = some (.string s) ∧ W2.drew.cell? ⟨g, 1, none⟩ = some (.slice aa l cc)) ∧ W2.drew.cell? ⟨b, off+j*2, none⟩ = some (.string t)) := ⟨p0, HPc.out _ p0.out⟩
              clear x0 x1
              go_region_held3 (fun w' => Hid (Below W2.heap.size W2 w') ∧ ((w'.cell? ⟨g, 0, none⟩ = some (.string s) ∧ w'.cell? ⟨g, 1, none⟩ = some (.slice aa l cc)) ∧ w'.cell? ⟨b, off+j*2, none⟩ = some (.string t))) (exact hN)
                (first
                  | (go_at_call 53; refine (HVW.out _).mono ?_; rintro e w8 ⟨rfl, rfl⟩; have hN := ‹Hid (Below W2.heap.size W2 _) ∧ _›)
                  | (go_at_call 13; refine (HFmt.out _ (And.left ‹Hid (Below W2.heap.size W2 _) ∧ _›).out).mono ?_; rintro e w9 ⟨rfl, b9⟩; have hp := (And.left ‹Hid (Below W2.heap.size W2 _) ∧ _›).out.trans (b9.mono (And.left ‹Hid (Below W2.heap.size W2 _) ∧ _›).out.size); have hN : Hid (Below W2.heap.size W2 w9) ∧ ((w9.cell? ⟨g, 0, none⟩ = some (.string s) ∧ w9.cell? ⟨g, 1, none⟩ = some (.slice aa l cc)) ∧ w9.cell? ⟨b, off+j*2, none⟩ = some (.string t)) := ⟨Lib.hid hp, HPc.out _ hp⟩))
              all_goals
                have HEnd : Hid (Below w.heap.size w w9) := Lib.hid (HBE.out.trans (hp.mono HBE.out.size))
                clear HPc c0 c1 hN HFmt HVW
                go_wp2_with fail
                go_ret
                exact ⟨rfl, HEnd.out⟩
        · obtain rfl : k = 0 := by omega
          have HNx : Hid (okPg (ep E 0) = true ∧ ep E 0 ≠ [] → ∀ i, i < 0 + 1 → okEnt E i) := Lib.hid (fun h => HNext.out ⟨hw, h.1, h.2, fun h => absurd h (by omega)⟩)
          have HBd : Hid (¬ (okPg (ep E 0) = true ∧ ep E 0 ≠ []) → ok = false) := Lib.hid (fun h => HBk.out (fun h2 => h ⟨h2.2.1, h2.2.2.1⟩))
          rw [Nat.zero_mul, Nat.add_zero] at c0 c1
          rw [show ((0 : Nat) : Int) = 0 from rfl]
          have HVS : Hid (∀ W : World, Calls Tryd.prog 53 #[.string (ew E 0)] W fun e w'' => e = .returned (.bool true) ∧ w'' = W) := Lib.hid (fun W => (HVW.out W).mono fun _ _ ⟨he, hw⟩ => ⟨he, hw.symm⟩)
          clear HBk HNext hw hat hsl HBW HVQ hk1 HK hk0
          generalize ew E 0 = s at *
          generalize (ep E 0).length = l at *
          generalize fmtP (ep E 0) = r at *
          have p0 : Hid (Below (wr.alloc (.cells #[.string s, .slice aa l cc] 40)).heap.size (wr.alloc (.cells #[.string s, .slice aa l cc] 40)) (wr.alloc (.cells #[.string s, .slice aa l cc] 40)).drew) := Lib.hid ((Below.refl _ _).drew)
          have x0 : (wr.alloc (.cells #[.string s, .slice aa l cc] 40)).cell? ⟨wr.heap.size, 0, none⟩ = some (.string s) := by simp [go_sem]
          have x1 : (wr.alloc (.cells #[.string s, .slice aa l cc] 40)).cell? ⟨wr.heap.size, 1, none⟩ = some (.slice aa l cc) := by simp [go_sem]
          by_cases hr : okPg (ep E 0) = true ∧ ep E 0 ≠ []
          · have hre : r.toList.isEmpty = false := by
              cases hq : r.toList.isEmpty with
              | false => rfl
              | true => exact absurd hr (HEmp.out.1 (toList_inj (by rw [List.isEmpty_iff.1 hq, Lib.toList_data])))
            have HN := Lib.hid (HNx.out hr)
            clear HNx HBd HEmp hr HVW
            go_wp2_with fail
            clear c0 c1
            generalize wr.alloc (.cells #[.string s, .slice aa l cc] 40) = W2 at *
            generalize wr.heap.size = g at *
            go_still_tail 22, (by kernel_rfl)
            still_call (HVS.out _)
            still_step
            still_step
            refine wpStill_want (by kernel_rfl) (fun K hK => ?_); go_simp; refine hK _ ?_; clear hK K
            refine wpStill_want (by kernel_rfl) (fun K hK => ?_); go_simp; refine hK _ ?_; clear hK K
            refine wpStill_want (by kernel_rfl) (fun K hK => ?_); go_simp; refine hK _ ?_; clear hK K
            refine wpStill_skip (by kernel_rfl) ?_
            refine wpStill_skip (by kernel_rfl) ?_
            refine wpStill_skip (by kernel_rfl) ?_
            refine wpStill_skip (by kernel_rfl) ?_
            refine wpStill_skip (by kernel_rfl) ?_
            refine wpStill_skip (by kernel_rfl) ?_
            refine wpStill_skip (by kernel_rfl) ?_
            refine wpStill_skip (by kernel_rfl) ?_
            refine wpStill_skip (by kernel_rfl) ?_
            refine wpStill_want (by kernel_rfl) (fun K hK => ?_); go_simp; refine hK _ ?_; clear hK K
            still_step
            still_step
            refine wpStill_want (by kernel_rfl) (fun K hK => ?_); go_simp; refine hK _ ?_; clear hK K
            refine wpStill_want (by kernel_rfl) (fun K hK => ?_); go_simp; refine hK _ ?_; clear hK K
            refine wpStill_nil ?_
            change wpList _ _ _ _ _ W2.drew
            go_wp2_with (go_at_call 13; refine (HFmt.out _ p0.out).mono ?_; rintro e w9 ⟨rfl, b9⟩; have HEnd : Hid (Below w.heap.size w w9) := Lib.hid (HBE.out.trans ((p0.out.trans (b9.mono p0.out.size)).mono HBE.out.size)))
            go_roundw
            case rel => exact ⟨0 + 1, by omega, by go_num, HEnd, HN⟩
            case measure => simp [intOf]; omega
          · have hre : r.toList.isEmpty = true := by rw [HEmp.out.2 hr, Lib.toList_data]; rfl
            have HN := HBd.out hr
            subst HN
            clear HNx HBd HEmp hr HVW
            go_wp2_with fail
            clear c0 c1
            generalize wr.alloc (.cells #[.string s, .slice aa l cc] 40) = W2 at *
            generalize wr.heap.size = g at *
            go_still_tail 22, (by kernel_rfl)
            still_call (HVS.out _)
            still_step
            still_step
            refine wpStill_want (by kernel_rfl) (fun K hK => ?_); go_simp; refine hK _ ?_; clear hK K
            refine wpStill_want (by kernel_rfl) (fun K hK => ?_); go_simp; refine hK _ ?_; clear hK K
            refine wpStill_want (by kernel_rfl) (fun K hK => ?_); go_simp; refine hK _ ?_; clear hK K
            refine wpStill_skip (by kernel_rfl) ?_
            refine wpStill_skip (by kernel_rfl) ?_
            refine wpStill_skip (by kernel_rfl) ?_
            refine wpStill_skip (by kernel_rfl) ?_
            refine wpStill_skip (by kernel_rfl) ?_
            refine wpStill_skip (by kernel_rfl) ?_
            refine wpStill_skip (by kernel_rfl) ?_
            refine wpStill_skip (by kernel_rfl) ?_
            refine wpStill_skip (by kernel_rfl) ?_
            refine wpStill_want (by kernel_rfl) (fun K hK => ?_); go_simp; refine hK _ ?_; clear hK K
            still_step
            still_step
            refine wpStill_want (by kernel_rfl) (fun K hK => ?_); go_simp; refine hK _ ?_; clear hK K
            refine wpStill_want (by kernel_rfl) (fun K hK => ?_); go_simp; refine hK _ ?_; clear hK K
            refine wpStill_nil ?_
            change wpList _ _ _ _ _ W2.drew
            go_wp2_with (go_at_call 13; refine (HFmt.out _ p0.out).mono ?_; rintro e w9 ⟨rfl, b9⟩; have HEnd : Hid (Below w.heap.size w w9) := Lib.hid (HBE.out.trans ((p0.out.trans (b9.mono p0.out.size)).mono HBE.out.size)))
            go_ret
            exact ⟨rfl, HEnd.out⟩
    · obtain rfl : k = n := by omega
      have HN := HGood.out HK.out
      subst HN
      clear HK HGood HBad
      go_wp2_with fail
      go_ret
      exact ⟨rfl, HB.out⟩
end Go.Proofs.YtflnbpiegcepcaaDoor

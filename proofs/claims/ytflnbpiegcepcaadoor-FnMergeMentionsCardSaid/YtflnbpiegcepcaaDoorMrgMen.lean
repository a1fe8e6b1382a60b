/- Indexes of parts are merged. -/
import Derived.Test.YtflnbpiegcepcaaDoorMrgLaws
import Derived.Test.YtflnbpiegcepcaaDoorIdxMenL
namespace Go.Proofs.YtflnbpiegcepcaaDoor
open Go.RowKit
set_option maxHeartbeats 4000000
set_option maxRecDepth 100000
set_option linter.unusedVariables false

/-- Mentions that can be read appended to a row of the call's own. -/
theorem wpList_append_mens {ops : Array Oper} {rest : List Oper} {o : Oper} {a : Act} {Q : Exit → Act → World → Prop} {w : World} (hgd : o.guard = none) (s x : Operand)
    (ho : o.op = .call { callee := .builtin .append, args := #[s, x], argTypes := #[41, 41] }) (B : Nat) (v vx : Value) (n : Nat) (M K : List Men)
    (hown : w.ownsRow B 74 2 v n (mC M)) (hs : a.eval s = v) (hx : a.eval x = vx) (hox : SlM w vx K) (h63 : n + K.length ≤ 1000000) (hbase : B ≤ w.heap.size)
    (h : ∀ v' w', w'.ownsRow B 74 2 v' (n + K.length) (mC (M ++ K)) → w.grownBy w' v.ownBlock → wpList Tryd.prog ops Q rest (a.put o.dst v') w') :
    wpList Tryd.prog ops Q (o :: rest) a w := by
  obtain ⟨i0, hi0, hz0, hz1, hz2⟩ := info_parts menInfo
  obtain ⟨ad, cap, rfl, h1, h2, h3⟩ := hox
  cases ad with
  | none =>
    have hK0 : K = [] := by
      rcases h3 with h3 | ⟨b, off, e, _⟩
      · exact List.length_eq_zero_iff.1 h3
      · cases e
    subst hK0
    refine wpList_plain hgd fun K hK => ?_
    have hrun := run_append_nilc (P := Tryd.prog) (w := w) B 41 o.type 74 i0 2 Tryd.underlying41 hi0 v n _ cap hown
    unfold Oper.wp
    simp [execOp, ho, resolve, invoke, builtin, hs, hx, hrun, Result.andThen]
    exact hK _ _ (h v w (by simpa using hown) (World.grownBy.refl _ _))
  | some ad =>
    refine wpList_append_own _ hgd s x 41 ho B 74 i0 (.agg #[.string ⟨#[]⟩, .int .i64 0]) 2 24 Tryd.underlying41 hi0 hz0 hz1 hz2 rfl (by decide) v n _ hs hown ad K.length cap (mC K) hx (mC_len K) ?_ (mC_one K) (by unfold maxLen; omega) (by omega) hbase ?_
    · intro j u hj
      have hlt : j < K.length * 2 := by
        rcases Nat.lt_or_ge j (K.length * 2) with h | h
        · exact h
        · rw [List.getElem?_eq_none (by rw [mC_len]; exact h)] at hj; cases hj
      rcases h3 with h3 | ⟨b, off, e, hb, hc⟩
      · omega
      · injection e with e; subst e
        have e : (⟨b, off, none⟩ : Addr).add j = ⟨b, off + j, none⟩ := by unfold Addr.add; split <;> simp_all
        rw [e, hc j hlt, hj]
    · intro v' w' h4 h5 _
      exact h v' w' (by rw [mC_append]; exact h4) h5

theorem mergeMentions_law (a : Option Addr) (len cap : Nat) (zs : List Int) (w : World) (h : RowIn .u8 w a len cap zs) (hT : Pow10 w) :
    Calls Tryd.prog 8 #[.slice a len cap] w fun e w' => e = .returned (.bool true) ∧ Below w.heap.size w w' := by
  have hlen := h.len_le.1
  unfold maxLen at hlen
  by_cases hl : 1048576 < len
  · clear hT
    go_enter Tryd.func8, Tryd.ntmps8
    go_wp2_with fail
    go_ret
    exact ⟨rfl, Below.refl _ _⟩
  have HT := Lib.hid (fun w' (b : Below w.heap.size w w') => hT.below b)
  clear hT
  go_enter Tryd.func8, Tryd.ntmps8
  go_wp2_with fail
  refine (drawMergedMentions_any a len cap zs w h).mono ?_
  rintro e w1 ⟨va, vb, M, K, hM, hK, hMs, hKs, rfl, sa, sb, b1⟩
  have HZa := Lib.hid (small_men (fun x hx => (hMs x hx).1))
  have HZb := Lib.hid (small_men (fun x hx => (hKs x hx).1))
  have HZc : Hid (∀ i, i < (M ++ K).length → (mw (M ++ K) i).size ≤ maxLen) := Lib.hid (small_men (fun x hx => by
    rcases List.mem_append.1 hx with hx | hx
    · exact (hMs x hx).1
    · exact (hKs x hx).1))
  have HE := Lib.hid (mrgS_colS (fun x hx => (hMs x hx).2) (fun x hx => (hKs x hx).2) (by omega : M.length + K.length ≤ 40))
  have HWa := Lib.hid (words_at (colS_words (fun x hx => (hMs x hx).2) (by omega : M.length ≤ 40)))
  have HWb := Lib.hid (words_at (colS_words (fun x hx => (hKs x hx).2) (by omega : K.length ≤ 40)))
  clear h hMs hKs
  obtain ⟨aa, ca, rfl, a1, a2⟩ := sa.shape
  obtain ⟨ab, cb, rfl, b1', b2'⟩ := sb.shape
  unfold maxLen at a2 b2'
  have B1 := b1
  go_wp2_with fail
  refine (collectIndex_any _ M w1 sa HZa.out).mono ?_
  rintro e w2 ⟨vx, rfl, ox, b2⟩
  have B2 := B1.trans (b2.mono B1.size)
  have sa := sa.below b2
  have sb := sb.below b2
  go_wp2_with fail
  refine (collectIndex_any _ K w2 sb HZb.out).mono ?_
  rintro e w3 ⟨vy, rfl, oy, b3⟩
  have B3 := B2.trans (b3.mono B2.size)
  have sa := sa.below b3
  have sb := sb.below b3
  have ox := ox.below b3
  go_wp2_with fail
  refine (mergeIndex_any _ _ (colS M) (colS K) w3 ox.sl oy.sl HWa.out HWb.out (HT.out _ B3)).mono ?_
  rintro e w4 ⟨vm, rfl, om, b4⟩
  have B4 := B3.trans (b4.mono B3.size)
  have sa := Lib.hid (sa.below b4)
  have sb := Lib.hid (sb.below b4)
  have om := Lib.hid om
  have HB4 := Lib.hid B4
  have HO1 : Hid ((w4.alloc (.cells #[] 74)).ownsRow w4.heap.size 74 2 (.slice (some ⟨w4.heap.size, 0, none⟩) 0 0) 0 (mC [])) := Lib.hid (World.ownsRow_lit w4 #[] 0 (Nat.le_refl _) (Nat.zero_le _) rfl)
  have hbl : Below w4.heap.size w4 (w4.alloc (.cells #[] 74)) := (Below.refl _ _).alloc (Nat.le_refl _) _
  have HBl := Lib.hid hbl
  have HSa := Lib.hid (sa.out.below hbl)
  clear b1 b2 b3 b4 B1 B2 B3 B4 ox oy hbl
  go_wp2_with (first
    | (at_builtin; refine wpList_append_mens rfl _ _ rfl w4.heap.size v5 (.slice ab K.length cb) M.length M K H5.out rfl rfl HSb.out (by omega) HB5.out.size ?_; intro v6 w6 h6 g6; have H6 := Lib.hid h6; have HB6 : Hid (Below w4.heap.size w4 w6) := Lib.hid (HB5.out.grown g6 HB5.out.size (fun j hj => (H5.out.lt j hj).1)); clear h6 g6)
    | (at_builtin; refine wpList_append_mens rfl _ _ rfl w4.heap.size (.slice (some ⟨w4.heap.size, 0, none⟩) 0 0) (.slice aa M.length ca) 0 [] M HO1.out rfl rfl HSa.out (by omega) HBl.out.size ?_; intro v5 w5 h5 g5; have H5 : Hid (w5.ownsRow w4.heap.size 74 2 v5 M.length (mC M)) := Lib.hid (by rw [Nat.zero_add] at h5; exact h5); have HB5 : Hid (Below w4.heap.size w4 w5) := Lib.hid (HBl.out.grown g5 HBl.out.size (fun j hj => (HO1.out.lt j hj).1)); have HSb := Lib.hid (sb.out.below HB5.out); clear h5 g5))
  have S6 : Hid (SlM w6 v6 (M ++ K)) := Lib.hid (by
    have h6 := H6.out
    rw [← List.length_append] at h6
    exact OwnM.sl (ownC_of h6))
  refine (collectIndex_any _ (M ++ K) w6 S6.out HZc.out).mono ?_
  rintro e w7 ⟨vl, rfl, ol, b7⟩
  have HB7 := Lib.hid (HB6.out.trans (b7.mono HB6.out.size))
  have sa := sa.out.below HB7.out
  have sb := sb.out.below HB7.out
  have om := om.out.below HB7.out
  have B7 := HB4.out.trans (HB7.out.mono HB4.out.size)
  clear HO1 HBl HSa HSb H5 HB5 H6 HB6 S6 b7 HB7 HB4
  go_wp2_with fail
  refine (scollectIndex_any _ M w7 sa HZa.out).mono ?_
  rintro e w8 ⟨ux, rfl, qx, b8⟩
  have B8 := B7.trans (b8.mono B7.size)
  have sb := sb.below b8
  have om := om.below b8
  have ol := ol.below b8
  go_wp2_with fail
  refine (scollectIndex_any _ K w8 sb HZb.out).mono ?_
  rintro e w9 ⟨uy, rfl, qy, b9⟩
  have B9 := B8.trans (b9.mono B8.size)
  have qx := qx.below b9
  have om := om.below b9
  have ol := ol.below b9
  go_wp2_with fail
  refine (smergeIndex_any _ _ (colS M) (colS K) w9 qx.sl qy.sl HWa.out HWb.out).mono ?_
  rintro e w10 ⟨vw, rfl, ow, b10⟩
  have HB := Lib.hid (B9.trans (b10.mono B9.size))
  rw [HE.out] at ow om
  have HG := Lib.hid (om.below b10).sl
  have HU := Lib.hid (ol.below b10).sl
  have HK := Lib.hid ow.sl
  have hE40 := (colS_facts (M ++ K)).2.1
  clear sa sb om ol ow qx qy b8 b9 b10 B7 B8 B9 HZa HZb HZc HE HWa HWb
  generalize colS (M ++ K) = E at *
  obtain ⟨ga, gc, rfl, g1, g2⟩ := HG.out.shape
  obtain ⟨ua, uc, rfl, u1, u2⟩ := HU.out.shape
  obtain ⟨ka, kc, rfl, k1, k2⟩ := HK.out.shape
  unfold maxLen at g2 u2 k2
  obtain ⟨n, hn⟩ : ∃ n, E.length = n := ⟨_, rfl⟩
  rw [hn] at HG HU HK g1 u1 k1 hE40 ⊢
  clear hn
  have hnn : ((n : Int) != (n : Int)) = false := by simp
  go_wp2_with fail
  go_loopw [10] (fun i wr => ∃ k : Nat, k ≤ n ∧ i = .int .i64 k ∧ ∃ q, Hid (wr = w10.drewN q)) (fun i _ => n - (intOf i).toNat)
  case atStart => exact ⟨0, by omega, rfl, 0, Lib.hid rfl⟩
  case round =>
    obtain ⟨k, hk, rfl, q, HQ⟩ := hrel
    by_cases hlt : k < n
    · have hG : SlE wr (.slice ga n gc) E := by rw [HQ.out]; exact HG.out.drewN q
      have hU : SlE wr (.slice ua n uc) E := by rw [HQ.out]; exact HU.out.drewN q
      have hK : SlE wr (.slice ka n kc) E := by rw [HQ.out]; exact HK.out.drewN q
      obtain ⟨b, off, rfl, hbl, hat⟩ := hG.at (by omega)
      obtain ⟨b', off', rfl, hbl', hat'⟩ := hU.at (by omega)
      obtain ⟨b2, off2, rfl, hbl2, hat2⟩ := hK.at (by omega)
      obtain ⟨vp, c0, c1, hsl⟩ := hat k hlt
      obtain ⟨vp', d0, d1, hsl'⟩ := hat' k hlt
      obtain ⟨vp2, x0, x1, hsl2⟩ := hat2 k hlt
      obtain ⟨Rd, hRd, rd1, rd2, rd3⟩ : ∃ Rd : Value → Prop, Hid (∀ u v m, Rd u → Rd v → Calls Tryd.prog 17 #[u, v] (wr.drewN m) fun e w'' => e = .returned (.bool true) ∧ ∃ j, w'' = (wr.drewN m).drewN j) ∧ Rd vp ∧ Rd vp' ∧ Rd vp2 := ⟨fun u => SlI wr u (ep E k), Lib.hid (fun u v m hu hv => equalInts_q u v (ep E k) wr hu hv m), hsl, hsl', hsl2⟩
      obtain ⟨aa1, cc1, rfl⟩ := SlI.shape hsl
      obtain ⟨aa2, cc2, rfl⟩ := SlI.shape hsl'
      obtain ⟨aa3, cc3, rfl⟩ := SlI.shape hsl2
      have hss : ((ew E k).toList != (ew E k).toList) = false := by simp
      clear hsl hsl' hsl2 hat hat' hat2 hG hU hK
      generalize ew E k = s at *
      generalize (ep E k).length = l at *
      go_wp2_with fail
      go_quiet ((go_at_call 17; exact Calls.quiet_of (hRd.out _ _ _ (by assumption) (by assumption))))
      go_wp2_with fail
      go_roundw
      case rel => exact ⟨k + 1, by omega, by go_num, q + nq, Lib.hid (by rw [HQ.out, World.drewN_drewN])⟩
      case measure => simp [intOf]; omega
    · obtain rfl : k = n := by omega
      have HEnd : Hid (Below w.heap.size w wr) := Lib.hid (by rw [HQ.out]; exact bel_drewN' HB.out q)
      go_wp2_with fail
      go_ret
      exact ⟨rfl, HEnd.out⟩
end Go.Proofs.YtflnbpiegcepcaaDoor

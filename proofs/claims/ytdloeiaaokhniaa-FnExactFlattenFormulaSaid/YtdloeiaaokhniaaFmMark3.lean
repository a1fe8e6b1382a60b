/- The exact law of flattening formulas. -/
import Derived.Test.YtdloeiaaokhniaaFmMark2
import Derived.Test.YtdloeiaaokhniaaFmFl
import Derived.Test.YtdloeiaaokhniaaFmExact3
import Derived.Deep.RegionHeld3
namespace Go.Proofs.Ytdloeiaaokhniaa
open Go.RowKit
open FL
set_option maxHeartbeats 4000000
set_option maxRecDepth 100000
set_option linter.unusedVariables false

/-- All is as before but the blocks of [lo, hi). -/
structure Kin (lo hi : Nat) (w w' : World) : Prop where
  bel : Below 0 w w'
  same : ∀ b, b < w.heap.size → ¬ (lo ≤ b ∧ b < hi) → w'.heap[b]? = w.heap[b]?
theorem Kin.below {lo hi : Nat} {a w : World} (h : Kin lo hi a w) {B : Nat} (hB : B ≤ a.heap.size) (hl : B ≤ lo) : Below B a w :=
  ⟨h.bel.os, h.bel.tape, h.bel.output, h.bel.size, fun k hk => h.same k (by omega) (by omega)⟩

def MarkP (lo hi : Nat) (n : Int) (v : Value) (g : FL) (w : World) (e : Ending) (w' : World) : Prop := e = .returned (.int .i64 (n + 4 * (g.sz : Int))) ∧ OwnFm lo hi w' v (mkF n g) ∧ Kin lo hi w w'
theorem markFm_any {lo hi : Nat} (k a b c n : Int) (v : Value) (g : FL) (w : World) (h : OwnFm lo hi w v g) (n0 : 0 ≤ n) (n1 : n + 4 * (g.sz : Int) ≤ 1000000000) :
    Calls Try.prog 27 #[.agg #[.int .i64 k, .int .i64 a, .int .i64 b, .int .i64 c, v], .int .i64 n] w (MarkP lo hi n v g w) := by
  have hb : Below w.heap.size w (w.alloc (.cells #[.int .i64 k, .int .i64 a, .int .i64 b, .int .i64 c, v] 32)) := (Below.refl _ _).alloc (Nat.le_refl _) _
  obtain ⟨av, cv, rfl, _⟩ := h.shape
  obtain ⟨hz, bs, hk, hn, hbs⟩ := h.below hb
  have hlow : ∀ x ∈ bs, x < w.heap.size := fun x hx => Nat.lt_of_lt_of_le (hbs x hx).2 h.1
  have HS := Lib.hid (mkOk_all _ g (Nat.lt_succ_self _) _ _ n bs hk hn n0 n1)
  have HN := Lib.hid hn
  have HL := Lib.hid hbs
  have HZ := Lib.hid h.1
  have HB := Lib.hid hb
  clear h hz hk hn hbs hlow hb
  go_enter Try.func27, Try.ntmps27
  go_wp2_with fail
  refine HS.out.mono ?_
  rintro e w2 ⟨rfl, hk2, kp⟩
  have HP : Hid (OwnFm lo hi w2 (.slice av g.len cv) (mkF n g) ∧ Kin lo hi w w2) := Lib.hid ⟨⟨Nat.le_trans (Nat.le_trans HZ.out HB.out.size) kp.bel.size, bs, hk2, HN.out, HL.out⟩, (HB.out.mono (Nat.zero_le _)).trans kp.bel, fun x hx hxn => (kp.same x (Nat.lt_of_lt_of_le hx HB.out.size) (fun hm => hxn (HL.out x hm))).trans (HB.out.block x hx)⟩
  clear hk2 kp HS HN HL HZ HB
  go_wp2_with fail
  go_ret
  exact ⟨rfl, HP.out.1, HP.out.2⟩
theorem heldFm_any (k a b c n : Int) (v : Value) (g : FL) (w : World) (h : Kids AllS w v (mkF n g)) (n0 : 0 ≤ n) (n1 : n + 4 * (g.sz : Int) ≤ 1000000000) :
    Calls Try.prog 28 #[.agg #[.int .i64 k, .int .i64 a, .int .i64 b, .int .i64 c, v], .int .i64 n] w fun e w' => e = .returned (.int .i64 (n + 4 * (g.sz : Int))) ∧ Below w.heap.size w w' := by
  have hb : Below w.heap.size w (w.alloc (.cells #[.int .i64 k, .int .i64 a, .int .i64 b, .int .i64 c, v] 32)) := (Below.refl _ _).alloc (Nat.le_refl _) _
  have HS := Lib.hid (hdOk_all _ g (Nat.lt_succ_self _) _ _ n (h.below hb) n0 n1)
  obtain ⟨av, cv, rfl, _⟩ := h.cells
  have HB := Lib.hid hb
  clear h hb
  go_enter Try.func28, Try.ntmps28
  go_wp2_with fail
  refine HS.out.mono ?_
  rintro e w2 ⟨rfl, b2⟩
  have B2 := Lib.hid (HB.out.trans (b2.mono HB.out.size))
  have hd : decide (n + 4 * (g.sz : Int) < 0) = false := decide_eq_false (by omega)
  clear b2 HS HB
  go_wp2_with fail
  go_ret
  exact ⟨rfl, B2.out⟩

/-- What the law has laid in memory. -/
structure Bun (w : World) (b0 b4 b6 b7 lw hw lx hx lg hg : Nat) (k a b c f0 f1 f2 f3 : Int) (v uw ux ug : Value) (gw gx gg : FL) (W : World) : Prop where
  bel : Below w.heap.size w W
  y0 : Five 26 W b0 (.int .i64 k) (.int .i64 a) (.int .i64 b) (.int .i64 c) v
  y4 : Five 32 W b4 (.int .i64 f0) (.int .i64 f1) (.int .i64 f2) (.int .i64 f3) uw
  y6 : Five 32 W b6 (.int .i64 k) (.int .i64 a) (.int .i64 b) (.int .i64 c) ux
  y7 : Five 32 W b7 (.int .i64 f0) (.int .i64 f1) (.int .i64 f2) (.int .i64 f3) ug
  ow : OwnFm lw hw W uw gw
  ox : OwnFm lx hx W ux gx
  og : OwnFm lg hg W ug gg
  ord : w.heap.size ≤ b0 ∧ b0 < lw ∧ lw ≤ hw ∧ hw ≤ b4 ∧ b4 < lx ∧ lx ≤ hx ∧ hx ≤ b6 ∧ b6 < lg ∧ lg ≤ hg ∧ hg ≤ b7
section
variable {w : World} {b0 b4 b6 b7 lw hw lx hx lg hg : Nat} {k a b c f0 f1 f2 f3 : Int} {v uw ux ug : Value} {gw gx gg gx' gg' : FL} {W W' : World}
theorem Bun.step (h : Bun w b0 b4 b6 b7 lw hw lx hx lg hg k a b c f0 f1 f2 f3 v uw ux ug gw gx gg W) (hb : Below W.heap.size W W') : Bun w b0 b4 b6 b7 lw hw lx hx lg hg k a b c f0 f1 f2 f3 v uw ux ug gw gx gg W' :=
  ⟨h.bel.trans (hb.mono h.bel.size), h.y0.below hb, h.y4.below hb, h.y6.below hb, h.y7.below hb, h.ow.below hb, h.ox.below hb, h.og.below hb, h.ord⟩
theorem Bun.markX (h : Bun w b0 b4 b6 b7 lw hw lx hx lg hg k a b c f0 f1 f2 f3 v uw ux ug gw gx gg W) (hk : Kin lx hx W W') (ho : OwnFm lx hx W' ux gx') : Bun w b0 b4 b6 b7 lw hw lx hx lg hg k a b c f0 f1 f2 f3 v uw ux ug gw gx' gg W' := by
  obtain ⟨e1, e2, e3, e4, e5, e6, e7, e8, e9, e10⟩ := h.ord
  exact ⟨h.bel.trans (hk.below h.bel.size (by omega)), h.y0.same (hk.same _ h.y0.lt (by omega)), h.y4.same (hk.same _ h.y4.lt (by omega)), h.y6.same (hk.same _ h.y6.lt (by omega)), h.y7.same (hk.same _ h.y7.lt (by omega)),
    h.ow.of_same hk.bel.size (fun x h1 h2 => hk.same x (Nat.lt_of_lt_of_le h2 h.ow.1) (by omega)), ho, h.og.of_same hk.bel.size (fun x h1 h2 => hk.same x (Nat.lt_of_lt_of_le h2 h.og.1) (by omega)), h.ord⟩
theorem Bun.markG (h : Bun w b0 b4 b6 b7 lw hw lx hx lg hg k a b c f0 f1 f2 f3 v uw ux ug gw gx gg W) (hk : Kin lg hg W W') (ho : OwnFm lg hg W' ug gg') : Bun w b0 b4 b6 b7 lw hw lx hx lg hg k a b c f0 f1 f2 f3 v uw ux ug gw gx gg' W' := by
  obtain ⟨e1, e2, e3, e4, e5, e6, e7, e8, e9, e10⟩ := h.ord
  exact ⟨h.bel.trans (hk.below h.bel.size (by omega)), h.y0.same (hk.same _ h.y0.lt (by omega)), h.y4.same (hk.same _ h.y4.lt (by omega)), h.y6.same (hk.same _ h.y6.lt (by omega)), h.y7.same (hk.same _ h.y7.lt (by omega)),
    h.ow.of_same hk.bel.size (fun x h1 h2 => hk.same x (Nat.lt_of_lt_of_le h2 h.ow.1) (by omega)), h.ox.of_same hk.bel.size (fun x h1 h2 => hk.same x (Nat.lt_of_lt_of_le h2 h.ox.1) (by omega)), ho, h.ord⟩
end

theorem exactFlatten_walk (k a b c : Int) (v : Value) (g : FL) (w : World) (h : Kids AllS w v g) :
    Calls Try.prog 10 #[fmV k a b c v] w fun e w' => e = .returned (.bool true) ∧ Below w.heap.size w w' := by
  obtain ⟨ad, cap, rfl, -⟩ := h.cells
  have HA : Hid (Below w.heap.size w (w.alloc (.cells #[.int .i64 k, .int .i64 a, .int .i64 b, .int .i64 c, .slice ad g.len cap] 26))) := Lib.hid ((Below.refl _ _).alloc (Nat.le_refl _) _)
  have F0 := Lib.hid (Five.new 26 w (.int .i64 k) (.int .i64 a) (.int .i64 b) (.int .i64 c) (.slice ad g.len cap))
  have HK := Lib.hid h
  clear h
  unfold fmV
  go_enter Try.func10, Try.ntmps10
  go_wp2_with fail
  generalize w.alloc (.cells #[.int .i64 k, .int .i64 a, .int .i64 b, .int .i64 c, .slice ad g.len cap] 26) = W at *
  refine (szFm_any k a b c 1048576 (.slice ad g.len cap) W (HK.out.below HA.out) (by omega) (by omega)).mono ?_
  rintro e w2 ⟨he, b2⟩
  obtain ⟨z, hz⟩ : ∃ z, szZ 1048576 g = z := ⟨_, rfl⟩
  have HZ := Lib.hid hz
  rw [hz] at he
  subst he
  have B2 := Lib.hid (HA.out.trans (b2.mono HA.out.size))
  have F2 := Lib.hid (F0.out.below b2)
  clear hz b2 HA F0
  obtain ⟨s0, s1, s2, s3, s4⟩ := F2.out.cells
  by_cases hneg : z < 0
  · have hd : decide (z < 0) = true := decide_eq_true hneg
    go_wp2_with fail
    go_ret
    exact ⟨rfl, B2.out⟩
  · have hd : decide (z < 0) = false := decide_eq_false hneg
    have hsz : g.sz ≤ 1048576 := szZ_ok (by rw [HZ.out]; exact hneg)
    have HGs : (flG (flOk k a b c g) k g).sz ≤ 1048576 := by
      unfold flG
      split
      · exact Nat.le_trans (flatM_sz g _) hsz
      · simp [FL.sz]
    have HSp := Lib.hid (fun (u : Value) (w' : World) (h : Kids AllS w' u g) => sflattenFm_any g k a b c u w' h hsz)
    have HIm := Lib.hid (fun (u : Value) (w' : World) (h : Kids AllS w' u g) => flattenFm_any g k a b c u w' h hsz)
    have HTo := Lib.hid (fun (w' : World) (h : Kids AllS w' (.slice ad g.len cap) g) => toFm_agg k a b c (.slice ad g.len cap) w' h hsz)
    generalize flG (flOk k a b c g) k g = G at *
    obtain ⟨f0, hf0⟩ : ∃ x, flI (flOk k a b c g) k = x := ⟨_, rfl⟩
    obtain ⟨f1, hf1⟩ : ∃ x, flI (flOk k a b c g) a = x := ⟨_, rfl⟩
    obtain ⟨f2, hf2⟩ : ∃ x, flI (flOk k a b c g) b = x := ⟨_, rfl⟩
    obtain ⟨f3, hf3⟩ : ∃ x, flI (flOk k a b c g) c = x := ⟨_, rfl⟩
    rw [hf0, hf1, hf2, hf3] at HSp HIm
    generalize flOk k a b c g = ok at *
    unfold fmV at HSp HIm
    clear hneg hf0 hf1 hf2 hf3
    have hlw := F2.out.lt
    have hww : w.heap.size ≤ w2.heap.size := B2.out.size
    go_wp2_with fail
    refine (HTo.out _ (HK.out.below B2.out)).mono ?_
    rintro e w3 ⟨u1, rfl, o1, b3⟩
    have B3 := Lib.hid (B2.out.trans (b3.mono B2.out.size))
    have F3 := Lib.hid (F2.out.below b3)
    obtain ⟨a1, c1, rfl, _⟩ := o1.shape
    have hs3 := b3.size
    clear b3 B2 F2 s0 s1 s2 s3 s4
    go_wp2_with fail
    refine (HSp.out _ _ o1.kids).mono ?_
    rintro e w4 ⟨uw, rfl, ow, b4⟩
    obtain ⟨aw, cw, rfl, _⟩ := ow.shape
    have hs4 := b4.size
    have ba : Below w4.heap.size w4 (w4.alloc (.cells #[.int .i64 f0, .int .i64 f1, .int .i64 f2, .int .i64 f3, .slice aw G.len cw] 32)) := (Below.refl _ _).alloc (Nat.le_refl _) _
    have b4' := b4.trans (ba.mono b4.size)
    have B4 := Lib.hid (B3.out.trans (b4'.mono B3.out.size))
    have F4 := Lib.hid (F3.out.below b4')
    have OW4 := Lib.hid (ow.below ba)
    have Y4 := Lib.hid (Five.new 32 w4 (.int .i64 f0) (.int .i64 f1) (.int .i64 f2) (.int .i64 f3) (.slice aw G.len cw))
    have hs4' := ba.size
    have hl4 := Y4.out.lt
    clear b4 b4' ba B3 F3 o1 ow
    obtain ⟨s0, s1, s2, s3, s4⟩ := F4.out.cells
    go_wp2_with fail
    generalize w4.alloc (.cells #[.int .i64 f0, .int .i64 f1, .int .i64 f2, .int .i64 f3, .slice aw G.len cw] 32) = W4 at *
    refine (HTo.out _ (HK.out.below B4.out)).mono ?_
    rintro e w5 ⟨ux, rfl, ox, b5⟩
    obtain ⟨ax, cx, rfl, _⟩ := ox.shape
    have hs5 := b5.size
    have ba : Below w5.heap.size w5 (w5.alloc (.cells #[.int .i64 k, .int .i64 a, .int .i64 b, .int .i64 c, .slice ax g.len cx] 32)) := (Below.refl _ _).alloc (Nat.le_refl _) _
    have b5' := b5.trans (ba.mono b5.size)
    have B5 := Lib.hid (B4.out.trans (b5'.mono B4.out.size))
    have F5 := Lib.hid (F4.out.below b5')
    have OW5 := Lib.hid (OW4.out.below b5')
    have OX5 := Lib.hid (ox.below ba)
    have Y5 := Lib.hid (Y4.out.below b5')
    have Z5 := Lib.hid (Five.new 32 w5 (.int .i64 k) (.int .i64 a) (.int .i64 b) (.int .i64 c) (.slice ax g.len cx))
    have hl5 := Z5.out.lt
    clear b5 b5' ba B4 F4 OW4 ox Y4 s0 s1 s2 s3 s4
    go_wp2_with fail
    generalize w5.alloc (.cells #[.int .i64 k, .int .i64 a, .int .i64 b, .int .i64 c, .slice ax g.len cx] 32) = W5 at *
    refine (HIm.out _ _ OX5.out.kids).mono ?_
    rintro e w6 ⟨ug, rfl, og, b6⟩
    obtain ⟨ag, cg, rfl, _⟩ := og.shape
    have hs6 := b6.size
    have ba : Below w6.heap.size w6 (w6.alloc (.cells #[.int .i64 f0, .int .i64 f1, .int .i64 f2, .int .i64 f3, .slice ag G.len cg] 32)) := (Below.refl _ _).alloc (Nat.le_refl _) _
    have b6' := b6.trans (ba.mono b6.size)
    have Y6 := Lib.hid (Y5.out.below b6')
    have Q6 := Lib.hid (Five.new 32 w6 (.int .i64 f0) (.int .i64 f1) (.int .i64 f2) (.int .i64 f3) (.slice ag G.len cg))
    have BN : Hid (Bun w w.heap.size w4.heap.size w5.heap.size w6.heap.size w3.heap.size w4.heap.size W4.heap.size w5.heap.size W5.heap.size w6.heap.size k a b c f0 f1 f2 f3 (.slice ad g.len cap) (.slice aw G.len cw) (.slice ax g.len cx) (.slice ag G.len cg) G g G (w6.alloc (.cells #[.int .i64 f0, .int .i64 f1, .int .i64 f2, .int .i64 f3, .slice ag G.len cg] 32))) :=
      Lib.hid ⟨B5.out.trans (b6'.mono B5.out.size), F5.out.below b6', Y6.out, Z5.out.below b6', Q6.out, OW5.out.below b6', OX5.out.below b6', og.below ba, by omega, by omega, by omega, by omega, by omega, by omega, by omega, by omega, by omega, by omega⟩
    obtain ⟨s0, s1, s2, s3, s4⟩ := Y6.out.cells
    clear b6 b6' ba B5 F5 OW5 OX5 Y5 Z5 og
    go_wp2_with fail
    generalize w6.alloc (.cells #[.int .i64 f0, .int .i64 f1, .int .i64 f2, .int .i64 f3, .slice ag G.len cg] 32) = W6 at *
    refine (eqFm_agg f0 f1 f2 f3 _ _ _ BN.out.og.kids BN.out.ow.kids).mono ?_
    rintro e w7 ⟨rfl, b7⟩
    have N7 := Lib.hid (BN.out.step b7)
    clear b7 Y6 Q6 s0 s1 s2 s3 s4 BN hs3 hs4 hs4' hl4 hs5 hl5 hs6 hlw hww
    go_wp2_with fail
    have hp : Bun w w.heap.size w4.heap.size w5.heap.size w6.heap.size w3.heap.size w4.heap.size W4.heap.size w5.heap.size W5.heap.size w6.heap.size k a b c f0 f1 f2 f3 (.slice ad g.len cap) (.slice aw G.len cw) (.slice ax g.len cx) (.slice ag G.len cg) G (g) (G) w7.drew := N7.out.step (Below.refl _ _).drew
    have hN : Hid (Bun w w.heap.size w4.heap.size w5.heap.size w6.heap.size w3.heap.size w4.heap.size W4.heap.size w5.heap.size W5.heap.size w6.heap.size k a b c f0 f1 f2 f3 (.slice ad g.len cap) (.slice aw G.len cw) (.slice ax g.len cx) (.slice ag G.len cg) G (g) (G) w7.drew) ∧ (w7.drew.cell? ⟨w5.heap.size, 0, none⟩ = some (.int .i64 k) ∧ w7.drew.cell? ⟨w5.heap.size, 1, none⟩ = some (.int .i64 a) ∧ w7.drew.cell? ⟨w5.heap.size, 2, none⟩ = some (.int .i64 b) ∧ w7.drew.cell? ⟨w5.heap.size, 3, none⟩ = some (.int .i64 c) ∧ w7.drew.cell? ⟨w5.heap.size, 4, none⟩ = some (.slice ax g.len cx)) ∧ (w7.drew.cell? ⟨w.heap.size, 0, none⟩ = some (.int .i64 k) ∧ w7.drew.cell? ⟨w.heap.size, 1, none⟩ = some (.int .i64 a) ∧ w7.drew.cell? ⟨w.heap.size, 2, none⟩ = some (.int .i64 b) ∧ w7.drew.cell? ⟨w.heap.size, 3, none⟩ = some (.int .i64 c) ∧ w7.drew.cell? ⟨w.heap.size, 4, none⟩ = some (.slice ad g.len cap)) := ⟨Lib.hid hp, hp.y6.cells, hp.y0.cells⟩
    clear hp N7
    go_region_held3 (fun w' => Hid (Bun w w.heap.size w4.heap.size w5.heap.size w6.heap.size w3.heap.size w4.heap.size W4.heap.size w5.heap.size W5.heap.size w6.heap.size k a b c f0 f1 f2 f3 (.slice ad g.len cap) (.slice aw G.len cw) (.slice ax g.len cx) (.slice ag G.len cg) G (g) (G) w') ∧ (w'.cell? ⟨w5.heap.size, 0, none⟩ = some (.int .i64 k) ∧ w'.cell? ⟨w5.heap.size, 1, none⟩ = some (.int .i64 a) ∧ w'.cell? ⟨w5.heap.size, 2, none⟩ = some (.int .i64 b) ∧ w'.cell? ⟨w5.heap.size, 3, none⟩ = some (.int .i64 c) ∧ w'.cell? ⟨w5.heap.size, 4, none⟩ = some (.slice ax g.len cx)) ∧ (w'.cell? ⟨w.heap.size, 0, none⟩ = some (.int .i64 k) ∧ w'.cell? ⟨w.heap.size, 1, none⟩ = some (.int .i64 a) ∧ w'.cell? ⟨w.heap.size, 2, none⟩ = some (.int .i64 b) ∧ w'.cell? ⟨w.heap.size, 3, none⟩ = some (.int .i64 c) ∧ w'.cell? ⟨w.heap.size, 4, none⟩ = some (.slice ad g.len cap))) (exact hN)
      (first
        | (go_at_call 13; refine (HTo.out _ (HK.out.below (And.left ‹Hid (Bun w w.heap.size w4.heap.size w5.heap.size w6.heap.size w3.heap.size w4.heap.size W4.heap.size w5.heap.size W5.heap.size w6.heap.size k a b c f0 f1 f2 f3 (.slice ad g.len cap) (.slice aw G.len cw) (.slice ax g.len cx) (.slice ag G.len cg) G (g) (G) _) ∧ _›).out.bel)).mono ?_; rintro e w8 ⟨u3, rfl, o3, b8⟩; obtain ⟨a3, c3, rfl, -⟩ := o3.shape; have hp := (And.left ‹Hid (Bun w w.heap.size w4.heap.size w5.heap.size w6.heap.size w3.heap.size w4.heap.size W4.heap.size w5.heap.size W5.heap.size w6.heap.size k a b c f0 f1 f2 f3 (.slice ad g.len cap) (.slice aw G.len cw) (.slice ax g.len cx) (.slice ag G.len cg) G (g) (G) _) ∧ _›).out.step b8; have hN : Hid (Bun w w.heap.size w4.heap.size w5.heap.size w6.heap.size w3.heap.size w4.heap.size W4.heap.size w5.heap.size W5.heap.size w6.heap.size k a b c f0 f1 f2 f3 (.slice ad g.len cap) (.slice aw G.len cw) (.slice ax g.len cx) (.slice ag G.len cg) G (g) (G) w8) ∧ (w8.cell? ⟨w5.heap.size, 0, none⟩ = some (.int .i64 k) ∧ w8.cell? ⟨w5.heap.size, 1, none⟩ = some (.int .i64 a) ∧ w8.cell? ⟨w5.heap.size, 2, none⟩ = some (.int .i64 b) ∧ w8.cell? ⟨w5.heap.size, 3, none⟩ = some (.int .i64 c) ∧ w8.cell? ⟨w5.heap.size, 4, none⟩ = some (.slice ax g.len cx)) ∧ (w8.cell? ⟨w.heap.size, 0, none⟩ = some (.int .i64 k) ∧ w8.cell? ⟨w.heap.size, 1, none⟩ = some (.int .i64 a) ∧ w8.cell? ⟨w.heap.size, 2, none⟩ = some (.int .i64 b) ∧ w8.cell? ⟨w.heap.size, 3, none⟩ = some (.int .i64 c) ∧ w8.cell? ⟨w.heap.size, 4, none⟩ = some (.slice ad g.len cap)) := ⟨Lib.hid hp, hp.y6.cells, hp.y0.cells⟩)
        | (go_at_call 15; refine (eqFm_agg k a b c _ _ _ hp.ox.kids o3.kids).mono ?_; rintro e w8' ⟨rfl, b9⟩; have hp := hp.step b9; have hN : Hid (Bun w w.heap.size w4.heap.size w5.heap.size w6.heap.size w3.heap.size w4.heap.size W4.heap.size w5.heap.size W5.heap.size w6.heap.size k a b c f0 f1 f2 f3 (.slice ad g.len cap) (.slice aw G.len cw) (.slice ax g.len cx) (.slice ag G.len cg) G (g) (G) w8') ∧ (w8'.cell? ⟨w5.heap.size, 0, none⟩ = some (.int .i64 k) ∧ w8'.cell? ⟨w5.heap.size, 1, none⟩ = some (.int .i64 a) ∧ w8'.cell? ⟨w5.heap.size, 2, none⟩ = some (.int .i64 b) ∧ w8'.cell? ⟨w5.heap.size, 3, none⟩ = some (.int .i64 c) ∧ w8'.cell? ⟨w5.heap.size, 4, none⟩ = some (.slice ax g.len cx)) ∧ (w8'.cell? ⟨w.heap.size, 0, none⟩ = some (.int .i64 k) ∧ w8'.cell? ⟨w.heap.size, 1, none⟩ = some (.int .i64 a) ∧ w8'.cell? ⟨w.heap.size, 2, none⟩ = some (.int .i64 b) ∧ w8'.cell? ⟨w.heap.size, 3, none⟩ = some (.int .i64 c) ∧ w8'.cell? ⟨w.heap.size, 4, none⟩ = some (.slice ad g.len cap)) := ⟨Lib.hid hp, hp.y6.cells, hp.y0.cells⟩))
    have N8 := Lib.hid hp
    clear hp hN o3 b9
    clear hN
    obtain ⟨s0, s1, s2, s3, s4⟩ := N8.out.y6.cells
    go_wp2_with fail
    refine (markFm_any k a b c 1 _ g _ N8.out.ox (by omega) (by omega)).mono ?_
    rintro e w9 ⟨rfl, ox9, kin⟩
    have N9 := Lib.hid (N8.out.markX kin ox9)
    clear ox9 kin N8 s0 s1 s2 s3 s4
    obtain ⟨s0, s1, s2, s3, s4⟩ := N9.out.y7.cells
    obtain ⟨t0, t1, t2, t3, t4⟩ := N9.out.y4.cells
    have hd1 : decide (1 + 4 * (g.sz : Int) < 0) = false := decide_eq_false (by omega)
    go_wp2_with fail
    refine (eqFm_agg f0 f1 f2 f3 _ _ _ N9.out.og.kids N9.out.ow.kids).mono ?_
    rintro e w10 ⟨rfl, b10⟩
    have N10 := Lib.hid (N9.out.step b10)
    clear b10 N9 s0 s1 s2 s3 s4 t0 t1 t2 t3 t4
    obtain ⟨s0, s1, s2, s3, s4⟩ := N10.out.y7.cells
    go_wp2_with fail
    refine (markFm_any f0 f1 f2 f3 1 _ G _ N10.out.og (by omega) (by omega)).mono ?_
    rintro e w11 ⟨rfl, og11, kin⟩
    have N11 := Lib.hid (N10.out.markG kin og11)
    clear og11 kin N10 s0 s1 s2 s3 s4
    obtain ⟨s0, s1, s2, s3, s4⟩ := N11.out.y7.cells
    have hd2 : decide (1 + 4 * (G.sz : Int) < 0) = false := decide_eq_false (by omega)
    go_wp2_with fail
    refine (heldFm_any f0 f1 f2 f3 1 _ G _ N11.out.og.kids (by omega) (by omega)).mono ?_
    rintro e w12 ⟨rfl, b12⟩
    have N12 := Lib.hid (N11.out.step b12)
    clear b12 N11 s0 s1 s2 s3 s4
    obtain ⟨s0, s1, s2, s3, s4⟩ := N12.out.y0.cells
    go_wp2_with fail
    refine (HTo.out _ (HK.out.below N12.out.bel)).mono ?_
    rintro e w13 ⟨u3, rfl, o3, b13⟩
    have N13 := Lib.hid (N12.out.step b13)
    obtain ⟨a4, c4, rfl, -⟩ := o3.shape
    clear b13 N12 s0 s1 s2 s3 s4
    go_wp2_with fail
    refine (HIm.out _ _ o3.kids).mono ?_
    rintro e w14 ⟨uh, rfl, oh, b14⟩
    obtain ⟨ah, ch, rfl, -⟩ := oh.shape
    have ba : Below w14.heap.size w14 (w14.alloc (.cells #[.int .i64 f0, .int .i64 f1, .int .i64 f2, .int .i64 f3, .slice ah G.len ch] 32)) := (Below.refl _ _).alloc (Nat.le_refl _) _
    have N14 := Lib.hid (N13.out.step (b14.trans (ba.mono b14.size)))
    have OH := Lib.hid (oh.below ba)
    obtain ⟨t0, t1, t2, t3, t4⟩ := N14.out.y4.cells
    clear b14 ba oh o3 N13
    go_wp2_with fail
    generalize w14.alloc (.cells #[.int .i64 f0, .int .i64 f1, .int .i64 f2, .int .i64 f3, .slice ah G.len ch] 32) = W14 at *
    refine (eqFm_agg f0 f1 f2 f3 _ _ _ OH.out.kids N14.out.ow.kids).mono ?_
    rintro e w15 ⟨rfl, b15⟩
    have N15 := Lib.hid (N14.out.step b15)
    clear b15 N14 OH t0 t1 t2 t3 t4
    obtain ⟨s0, s1, s2, s3, s4⟩ := N15.out.y7.cells
    go_wp2_with fail
    refine (heldFm_any f0 f1 f2 f3 1 _ G _ N15.out.og.kids (by omega) (by omega)).mono ?_
    rintro e w16 ⟨rfl, b16⟩
    have N16 := Lib.hid (N15.out.step b16)
    clear b16 N15 s0 s1 s2 s3 s4
    go_wp2_with fail
    go_ret
    exact ⟨rfl, N16.out.bel⟩
theorem exactFlatten_of (v : Value) (X : FmX) (W : World) (h : FmIn W v X) :
    Calls Try.prog 10 #[v] W fun e w' => e = .returned (.bool true) ∧ Below W.heap.size W w' := by
  obtain ⟨rfl, hk⟩ := h
  exact exactFlatten_walk _ _ _ _ _ _ _ hk
end Go.Proofs.Ytdloeiaaokhniaa

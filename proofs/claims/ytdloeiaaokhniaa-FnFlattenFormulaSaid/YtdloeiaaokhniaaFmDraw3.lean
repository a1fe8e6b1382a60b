/- What the law of flattening draws. -/
import Derived.Test.YtdloeiaaokhniaaFmLaw1
import Derived.Deep.RegionWith
namespace Go.Proofs.Ytdloeiaaokhniaa
open Go.RowKit
open FL
set_option maxHeartbeats 4000000
set_option maxRecDepth 100000
set_option linter.unusedVariables false

theorem Kids.two {w : World} {u u' : Value} {g g' : FL} {k a b c k' a' b' c' : Int} {blk : Nat} (h : Kids AllS w u g) (h' : Kids AllS w u' g') (hb : blk < w.heap.size)
    (hc : ∀ j, j < 10 → w.cell? ⟨blk, j, none⟩ = [.int .i64 k, .int .i64 a, .int .i64 b, .int .i64 c, u, .int .i64 k', .int .i64 a', .int .i64 b', .int .i64 c', u'][j]?) :
    Kids AllS w (.slice (some ⟨blk, 0, none⟩) 2 2) (cons k a b c g (cons k' a' b' c' g' FL.nil)) := by
  obtain ⟨C, h1, h2⟩ := h
  obtain ⟨D, h3, h4⟩ := h'
  refine ⟨[.int .i64 k, .int .i64 a, .int .i64 b, .int .i64 c, u, .int .i64 k', .int .i64 a', .int .i64 b', .int .i64 c', u'], ⟨some ⟨blk, 0, none⟩, 2, rfl, by simp [FL.len], by unfold maxLen; omega, .inr ⟨blk, 0, rfl, trivial, hb, fun j hj => ?_⟩⟩, ?_⟩
  · rw [Nat.zero_add]; exact hc j (by simp [FL.len] at hj; omega)
  · exact ⟨u, C, _, rfl, h1, h2, u', D, [], rfl, h3, h4, rfl⟩
def DrewK (w : World) (e : Ending) (w' : World) : Prop := ∃ (k a b c : Int) (u : Value) (g : FL), e = .returned (fmV k a b c u) ∧ Kids AllS w' u g ∧ g.sz ≤ 400 ∧ Below w.heap.size w w'
theorem drawFlattenFormula_any (a : Option Addr) (len cap : Nat) (zs : List Int) (w : World) (h : RowIn .u8 w a len cap zs) :
    Calls Try.prog 23 #[.slice a len cap] w (DrewK w) := by
  have hb0 : Below w.heap.size w (w.alloc (.cells #[.int .i64 0, .int .i64 0, .int .i64 0, .int .i64 0, .slice none 0 0] 32)) := (Below.refl _ _).alloc (Nat.le_refl _) _
  have F0 := Lib.hid (Five.new 32 w (.int .i64 0) (.int .i64 0) (.int .i64 0) (.int .i64 0) (.slice none 0 0))
  have HR : Hid (RowIn .u8 (w.alloc (.cells #[.int .i64 0, .int .i64 0, .int .i64 0, .int .i64 0, .slice none 0 0] 32)) a len cap zs) := Lib.hid (by
    rcases h with h | ⟨x, e, h1, h2, h3, hc, hw⟩
    · exact .inl h
    · refine .inr ⟨x, e, h1, h2, h3, fun i hi => ?_, hw⟩
      have hlt : (x.add i).block < w.heap.size := cell_ltA (hc i hi)
      rw [hb0.cell hlt]
      exact hc i hi)
  have HB0 := Lib.hid hb0
  clear h hb0
  go_enter Try.func23, Try.ntmps23
  go_wp2_with fail
  generalize w.alloc (.cells #[.int .i64 0, .int .i64 0, .int .i64 0, .int .i64 0, .slice none 0 0] 32) = W at *
  refine (newReader_any a len cap zs W HR.out).mono ?_
  rintro e w1 ⟨rfl, hR, hb⟩
  have hlt : W.heap.size < w1.heap.size := hR.lies
  have hwW : w.heap.size < W.heap.size := F0.out.lt
  have F1 := Lib.hid (F0.out.below hb)
  have HB1 := Lib.hid (HB0.out.trans (hb.mono HB0.out.size))
  clear hb F0 HB0
  go_wp2_with fail
  refine (anyFormula_any W.heap.size 0 w1 (by omega) hR).mono ?_
  rintro e w2 ⟨k, a, b, c, u, g, rfl, ou, han, hR2, k2⟩
  obtain ⟨au, cu, rfl, _⟩ := ou.shape
  have hsz := han.size
  have hw12 : w1.heap.size ≤ w2.heap.size := k2.below.size
  have ba : Below w2.heap.size w2 (w2.alloc (.cells #[.int .i64 k, .int .i64 a, .int .i64 b, .int .i64 c, .slice au g.len cu] 32)) := (Below.refl _ _).alloc (Nat.le_refl _) _
  have F2 := Lib.hid ((F1.out.keeps k2 (by omega)).below ba)
  have G2 := Lib.hid (Five.new 32 w2 (.int .i64 k) (.int .i64 a) (.int .i64 b) (.int .i64 c) (.slice au g.len cu))
  have O2 := Lib.hid (ou.below ba)
  have R2 := Lib.hid (hR2.below ba)
  have HB2 := Lib.hid ((HB1.out.trans (k2.below.mono (Nat.le_of_lt hwW))).trans (ba.mono (Nat.le_of_lt (Nat.lt_of_lt_of_le (Nat.lt_trans hwW hlt) hw12))))
  clear ba ou han hR2 k2 F1 HB1 hR
  unfold fmV
  go_wp2_with fail
  generalize w2.alloc (.cells #[.int .i64 k, .int .i64 a, .int .i64 b, .int .i64 c, .slice au g.len cu] 32) = W2 at *
  refine (pick_pos W.heap.size (0 + 200) 2 W2 (by omega) (by omega) R2.out).mono ?_
  rintro e w3 ⟨x, hx, rfl, r3, k3⟩
  have hne : w.heap.size ≠ W.heap.size := by omega
  have hne2 : w2.heap.size ≠ W.heap.size := by omega
  have F3 := Lib.hid (F2.out.keeps k3 hne)
  have G3 := Lib.hid (G2.out.keeps k3 hne2)
  have O3 := Lib.hid (O2.out.keeps k3 (by omega))
  have HB3 := Lib.hid (HB2.out.trans (k3.below.mono (Nat.le_of_lt hwW)))
  have hlx : w2.heap.size < w3.heap.size := G3.out.lt
  by_cases hx0 : x = 0
  · subst hx0
    have hpk : pkb 2 = 52 := by simp [pkb]
    have Rd : Hid (Rdr (w3.drewN 1) W.heap.size (0 + 200 + 1)) := Lib.hid (r3.drewN 1)
    have Fd : Hid (Five 32 (w3.drewN 1) w.heap.size (.int .i64 0) (.int .i64 0) (.int .i64 0) (.int .i64 0) (.slice none 0 0)) := Lib.hid (F3.out.same rfl)
    have Gd : Hid (Five 32 (w3.drewN 1) w2.heap.size (.int .i64 k) (.int .i64 a) (.int .i64 b) (.int .i64 c) (.slice au g.len cu)) := Lib.hid (G3.out.same rfl)
    have Od : Hid (OwnFm w1.heap.size w2.heap.size (w3.drewN 1) (.slice au g.len cu) g) := Lib.hid (O3.out.drewN 1)
    have HBd : Hid (Below w.heap.size w (w3.drewN 1)) := Lib.hid (HB3.out.trans ⟨rfl, rfl, rfl, Nat.le_refl _, fun _ _ => rfl⟩)
    have HS := Lib.hid (rfOk_all 2 (by omega) W.heap.size (0 + 200 + 1) (w3.drewN 1) (by rw [hpk]; omega) Rd.out)
    unfold DrewF fmV at HS
    obtain ⟨t0, t1, t2, t3, t4⟩ := F3.out.cells
    obtain ⟨y0, y1, y2, y3, y4⟩ := F3.out.free
    obtain ⟨s0, s1, s2, s3, s4⟩ := G3.out.cells
    clear r3 k3 F2 G2 O2 R2 HB2
    go_wp2_with fail
    go_region_with (go_at_call 45; refine HS.out.mono ?_; rintro e w7 ⟨k', a', b', c', u', g', rfl, ou', hsm, hR7, hK7, -⟩; obtain ⟨au', cu', rfl, _⟩ := ou'.shape; have G7 := Lib.hid (Gd.out.keeps hK7 hne2); have F7 := Lib.hid (Fd.out.keeps hK7 hne); obtain ⟨m0, m1, m2, m3, m4⟩ := G7.out.cells; obtain ⟨n0, n1, n2, n3, n4⟩ := F7.out.cells; obtain ⟨p0, p1, p2, p3, p4⟩ := F7.out.free; have hF7 := F7.out.lt; have hG7 := G7.out.lt)
    all_goals
      have hb8 : Below w.heap.size w w7 := HBd.out.trans (hK7.below.mono (Nat.le_of_lt hwW))
      have KA := (Od.out.keeps hK7 hlt).set5 (b := w.heap.size) (by omega) (.int .i64 2) (.int .i64 0) (.int .i64 0) (.int .i64 0) (.slice (some ⟨w7.heap.size, 0, none⟩) 2 2)
      have KB := ou'.set5 (b := w.heap.size) (by have := HBd.out.size; have := Fd.out.lt; omega) (.int .i64 2) (.int .i64 0) (.int .i64 0) (.int .i64 0) (.slice (some ⟨w7.heap.size, 0, none⟩) 2 2)
      have F8 := (F7.out.set5 (.int .i64 2) (.int .i64 0) (.int .i64 0) (.int .i64 0) (.slice (some ⟨w7.heap.size, 0, none⟩) 2 2)).alloc (.cells #[.int .i64 k, .int .i64 a, .int .i64 b, .int .i64 c, .slice au g.len cu, .int .i64 k', .int .i64 a', .int .i64 b', .int .i64 c', .slice au' g'.len cu'] 32)
      have hb9 := (set5_below hb8 w.heap.size (Nat.le_refl _) (.int .i64 2) (.int .i64 0) (.int .i64 0) (.int .i64 0) (.slice (some ⟨w7.heap.size, 0, none⟩) 2 2))
      have hz := set5_size w7 w.heap.size (.int .i64 2) (.int .i64 0) (.int .i64 0) (.int .i64 0) (.slice (some ⟨w7.heap.size, 0, none⟩) 2 2)
      have HS8 := hsm.size
      have hszb : szb 2 = 12 := by simp [szb]
      unfold set5 at KA KB F8 hb9 hz
      generalize ((((w7.setCell ⟨w.heap.size, 0, none⟩ (.int .i64 2)).setCell ⟨w.heap.size, 1, none⟩ (.int .i64 0)).setCell ⟨w.heap.size, 2, none⟩ (.int .i64 0)).setCell ⟨w.heap.size, 3, none⟩ (.int .i64 0)).setCell ⟨w.heap.size, 4, none⟩ (.slice (some ⟨w7.heap.size, 0, none⟩) 2 2) = W8 at *
      have h0 : (W8.alloc (.cells #[.int .i64 k, .int .i64 a, .int .i64 b, .int .i64 c, .slice au g.len cu, .int .i64 k', .int .i64 a', .int .i64 b', .int .i64 c', .slice au' g'.len cu'] 32)).ownsRow W8.heap.size 32 5 (.slice (some ⟨W8.heap.size, 0, none⟩) 2 2) 2 [.int .i64 k, .int .i64 a, .int .i64 b, .int .i64 c, .slice au g.len cu, .int .i64 k', .int .i64 a', .int .i64 b', .int .i64 c', .slice au' g'.len cu'] := World.ownsRow_lit W8 #[.int .i64 k, .int .i64 a, .int .i64 b, .int .i64 c, .slice au g.len cu, .int .i64 k', .int .i64 a', .int .i64 b', .int .i64 c', .slice au' g'.len cu'] 2 (Nat.le_refl _) (by decide) rfl
      have h1 := (ownC_of h0).row
      have bq : Below W8.heap.size W8 (W8.alloc (.cells #[.int .i64 k, .int .i64 a, .int .i64 b, .int .i64 c, .slice au g.len cu, .int .i64 k', .int .i64 a', .int .i64 b', .int .i64 c', .slice au' g'.len cu'] 32)) := (Below.refl _ _).alloc (Nat.le_refl _) _
      have KP := Lib.hid (Kids.two (k := k) (a := a) (b := b) (c := c) (k' := k') (a' := a') (b' := b') (c' := c') (KA.kids.below bq) (KB.kids.below bq) (h1.lt _ rfl).2 (fun j hj => h1.cellAt j (by omega)))
      have HB9 := Lib.hid (hb9.trans (bq.mono hb9.size))
      rw [hz] at KP
      clear h0 h1 bq hb9 KA KB hb8
      obtain ⟨g0, g1, g2, g3, g4⟩ := F8.cells
      go_wp2_with fail
      exact bodyPost_ret (v := .agg #[.int .i64 2, .int .i64 0, .int .i64 0, .int .i64 0, .slice (some ⟨w7.heap.size, 0, none⟩) 2 2]) (by simp [results, Try.results23, go_sem, g0, g1, g2, g3, g4]) rfl
        ⟨2, 0, 0, 0, _, _, rfl, KP.out, by simp only [FL.sz]; omega, HB9.out⟩
  · have hxe : ((x : Int) == 0) = false := by simpa using hx0
    obtain ⟨t0, t1, t2, t3, t4⟩ := F3.out.cells
    obtain ⟨y0, y1, y2, y3, y4⟩ := F3.out.free
    obtain ⟨s0, s1, s2, s3, s4⟩ := G3.out.cells
    have HU := Lib.hid (F3.out.set5 (.int .i64 k) (.int .i64 a) (.int .i64 b) (.int .i64 c) (.slice au g.len cu)).cells
    have HB4 := Lib.hid (set5_below HB3.out w.heap.size (Nat.le_refl _) (.int .i64 k) (.int .i64 a) (.int .i64 b) (.int .i64 c) (.slice au g.len cu))
    have HO4 := Lib.hid (O3.out.set5 (b := w.heap.size) (by omega) (.int .i64 k) (.int .i64 a) (.int .i64 b) (.int .i64 c) (.slice au g.len cu)).kids
    clear r3 k3 F2 G2 O2 R2 HB2 F3 G3 O3 HB3
    go_wp2_with fail
    unfold set5 at HU
    obtain ⟨g0, g1, g2, g3, g4⟩ := HU.out
    exact bodyPost_ret (v := .agg #[.int .i64 k, .int .i64 a, .int .i64 b, .int .i64 c, .slice au g.len cu]) (by simp [results, Try.results23, go_sem, g0, g1, g2, g3, g4]) rfl
      ⟨k, a, b, c, _, g, rfl, HO4.out, by omega, HB4.out⟩
end Go.Proofs.Ytdloeiaaokhniaa

/- anyFormula and what the laws of formulas draw. -/
import Derived.Test.YtdloeiaaokhniaaFmDraw2
import Derived.Test.YtdloeiaaokhniaaDrawCols2
namespace Go.Proofs.Ytdloeiaaokhniaa
open Go.RowKit
open FL
set_option maxHeartbeats 4000000
set_option maxRecDepth 100000
set_option linter.unusedVariables false

/-- What is known of any drawn formula. -/
structure AnyS (g : FL) : Prop where
  kids : ∀ p ∈ layL g, boxIn 112 p
  size : g.sz ≤ 200
  len : g.len ≤ 4
theorem Small.any {k a b c : Int} {g : FL} (h : Small 3 k a b c g) : AnyS g := by
  refine ⟨fun p hp => ?_, ?_, by have := h.len; omega⟩
  · have := h.kids p hp
    have e : sbd (3 - 1) = 112 := by simp [sbd]
    rw [e] at this; exact this
  · have := h.size
    have e : szb 3 = 39 := by simp [szb]
    rw [e] at this; omega
theorem AnyS.snoc {g : FL} {k a b c : Int} (h : Small 3 k a b c g) : AnyS (g.app (cons 1 0 0 0 FL.nil FL.nil)) := by
  have h1 := h.any
  refine ⟨fun p hp => ?_, ?_, ?_⟩
  · rw [layL_app, List.mem_append] at hp
    rcases hp with hp | hp
    · exact h1.kids p hp
    · simp only [layL, List.mem_singleton] at hp
      subst hp
      show boxIn 112 (0, 0, 0)
      exact ⟨by simp, by simp, by simp⟩
  · rw [sz_app]
    have := h.size
    have e : szb 3 = 39 := by simp [szb]
    simp only [FL.sz]; omega
  · rw [len_app]
    have := h.len
    simp only [FL.len]; omega
theorem ownFm_at {m : Nat} {w : World} (h : m ≤ w.heap.size) : OwnFm m m w (.slice none 0 0) FL.nil :=
  ⟨h, [], ⟨[], [], [], rfl, ⟨none, 0, rfl, Nat.le_refl _, Nat.zero_le _, .inl ⟨rfl, rfl⟩⟩, rfl, rfl⟩, List.nodup_nil, fun b hb => by simp at hb⟩
def DrewA (rb P : Nat) (w : World) (e : Ending) (w' : World) : Prop := ∃ (k a b c : Int) (u : Value) (g : FL), e = .returned (fmV k a b c u) ∧ OwnFm w.heap.size w'.heap.size w' u g ∧ AnyS g ∧ Rdr w' rb P ∧ Keeps rb w w'

theorem anyFormula_any (rb P : Nat) (w : World) (hP : P ≤ 700000) (hR : Rdr w rb P) :
    Calls Try.prog 35 #[.pointer (some ⟨rb, 0, none⟩)] w (DrewA rb (P + 200) w) := by
  have hrb := hR.lies
  have R0 := Lib.hid (hR.allocR (.cells #[.int .i64 0, .int .i64 0, .int .i64 0, .int .i64 0, .slice none 0 0] 32))
  have K0 := Lib.hid ((Keeps.refl rb w).allocK hrb (.cells #[.int .i64 0, .int .i64 0, .int .i64 0, .int .i64 0, .slice none 0 0] 32))
  have F0 := Lib.hid (Five.new 32 w (.int .i64 0) (.int .i64 0) (.int .i64 0) (.int .i64 0) (.slice none 0 0))
  have hne : w.heap.size ≠ rb := by omega
  clear hR
  have hpk : pkb 3 = 160 := by simp [pkb]
  go_enter Try.func35, Try.ntmps35
  go_wp2_with fail
  generalize w.alloc (.cells #[.int .i64 0, .int .i64 0, .int .i64 0, .int .i64 0, .slice none 0 0] 32) = W at *
  have hS := rfOk_all 3 (by omega) rb P W (by rw [hpk]; omega) R0.out
  rw [hpk] at hS
  refine hS.mono ?_
  rintro e w1 ⟨k, a, b, c, u, g, rfl, ou, hsm, r1, k1, lo, C, hlo, hlo1, hmd⟩
  obtain ⟨au, cu, rfl, _⟩ := ou.shape
  have hwW : w.heap.size < W.heap.size := F0.out.lt
  have ba : Below w1.heap.size w1 (w1.alloc (.cells #[.int .i64 k, .int .i64 a, .int .i64 b, .int .i64 c, .slice au g.len cu] 32)) := (Below.refl _ _).alloc (Nat.le_refl _) _
  have hb1 : rb < w1.heap.size := Nat.lt_of_lt_of_le (Nat.lt_trans hrb hwW) k1.below.size
  have R1 := Lib.hid (r1.below ba)
  have K1 := Lib.hid ((K0.out.trans k1).trans (Keeps.of_below hb1 ba))
  have F1 := Lib.hid ((F0.out.keeps k1 hne).below ba)
  have G1 := Lib.hid (Five.new 32 w1 (.int .i64 k) (.int .i64 a) (.int .i64 b) (.int .i64 c) (.slice au g.len cu))
  have O1 := Lib.hid (ou.below ba)
  have hw1 : W.heap.size ≤ w1.heap.size := k1.below.size
  have hw1a : w1.heap.size < (w1.alloc (.cells #[.int .i64 k, .int .i64 a, .int .i64 b, .int .i64 c, .slice au g.len cu] 32)).heap.size := G1.out.lt
  have HSm := Lib.hid hsm
  have M1 := Lib.hid (hmd.below ba)
  have L1 := Lib.hid (hmd.kids.below ba)
  have V1 : Hid (∀ i, (Value.slice au g.len cu).ownBlock = some i → i < w1.heap.size) := Lib.hid (fun i hi => (hmd.row.lt i hi).2)
  have hloW : w.heap.size < lo := by omega
  clear ou hsm r1 k1 ba R0 K0 F0 hS hmd
  unfold fmV
  go_wp2_with fail
  generalize w1.alloc (.cells #[.int .i64 k, .int .i64 a, .int .i64 b, .int .i64 c, .slice au g.len cu] 32) = W1 at *
  refine (pick_pos rb (P + 160) 16 W1 (by omega) (by omega) R1.out).mono ?_
  rintro e w2 ⟨x, hx, rfl, r2, k2⟩
  have R2 := Lib.hid r2
  have K2 := Lib.hid (K1.out.trans k2)
  have K12 := Lib.hid k2
  have F2 := Lib.hid (F1.out.keeps k2 hne)
  have G2 := Lib.hid (G1.out.keeps k2 (by omega))
  have O2 := Lib.hid ((O1.out.keeps k2 (by omega)))
  have hw2 : w1.heap.size < w2.heap.size := Nat.lt_of_lt_of_le hw1a k2.below.size
  clear r2 k2 R1 K1 F1 G1 O1
  by_cases h0 : x = 0
  · subst h0
    go_wp2_with fail
    refine (one_lit rb (P + 160 + 1) [0, 7, 1, 3] w2 _ (by simp) (by simp) (by omega) R2.out).mono ?_
    rintro e w3 ⟨z, _, rfl, r3, k3⟩
    have F3 := F2.out.keeps k3 hne
    have G3 := G2.out.keeps k3 (by omega)
    obtain ⟨s0, s1, s2, s3, s4⟩ := G3.cells
    obtain ⟨q0, q1, q2, q3, q4⟩ := G3.free
    obtain ⟨t0, t1, t2, t3, t4⟩ := F3.cells
    obtain ⟨y0, y1, y2, y3, y4⟩ := F3.free
    have hO := O2.out.keeps k3 (by omega)
    have HU := Lib.hid ((F3.aside (c := w1.heap.size) (o := 0) (by omega) (.int .i64 z)).set5 (.int .i64 z) (.int .i64 a) (.int .i64 b) (.int .i64 c) (.slice au g.len cu)).cells
    have K4 := Lib.hid (((K2.out.trans k3).setOther (b := w1.heap.size) (o := 0) (by omega) hrb (.int .i64 z)).set5 w.heap.size (Nat.le_refl _) hrb (.int .i64 z) (.int .i64 a) (.int .i64 b) (.int .i64 c) (.slice au g.len cu))
    have R4 := Lib.hid (((r3.mono (show P + 160 + 1 + 1 ≤ P + 200 by omega)).same (w' := w3.setCell ⟨w1.heap.size, 0, none⟩ (.int .i64 z)) (by simp [World.setCell]) (fun i hi => Below.heap_setCell _ _ _ _ (by simp only; omega))).set5 w.heap.size hrb (.int .i64 z) (.int .i64 a) (.int .i64 b) (.int .i64 c) (.slice au g.len cu))
    have O4 := Lib.hid (((hO.of_same (w' := w3.setCell ⟨w1.heap.size, 0, none⟩ (.int .i64 z)) (by simp [World.setCell]) (fun i h1 h2 => Below.heap_setCell _ _ _ _ (by simp only; omega))).set5 (b := w.heap.size) (by omega) (.int .i64 z) (.int .i64 a) (.int .i64 b) (.int .i64 c) (.slice au g.len cu)).mono (lo' := w.heap.size) (Nat.le_of_lt hwW) (Nat.le_trans hO.1 (by rw [set5_size]; simp [World.setCell])) (Nat.le_refl _))
    clear hO r3 k3 R2 K2 F2 G2 O2 F3 G3
    go_wp2_with fail
    unfold set5 at HU
    obtain ⟨g0, g1, g2, g3, g4⟩ := HU.out
    exact bodyPost_ret (v := .agg #[.int .i64 z, .int .i64 a, .int .i64 b, .int .i64 c, .slice au g.len cu]) (by simp [results, Try.results35, go_sem, g0, g1, g2, g3, g4]) rfl
      ⟨z, a, b, c, _, g, rfl, O4.out, HSm.out.any, R4.out, K4.out⟩
  · have e0 : ((x : Int) == 0) = false := by simpa using h0
    by_cases h1 : x = 1
    · subst h1
      go_wp2_with fail
      refine (one_lit rb (P + 160 + 1) [-1, 101, 5] w2 _ (by simp) (by simp) (by omega) R2.out).mono ?_
      rintro e w3 ⟨z, _, rfl, r3, k3⟩
      have F3 := F2.out.keeps k3 hne
      have G3 := G2.out.keeps k3 (by omega)
      obtain ⟨s0, s1, s2, s3, s4⟩ := G3.cells
      obtain ⟨q0, q1, q2, q3, q4⟩ := G3.free
      obtain ⟨t0, t1, t2, t3, t4⟩ := F3.cells
      obtain ⟨y0, y1, y2, y3, y4⟩ := F3.free
      have hO := O2.out.keeps k3 (by omega)
      have HU := Lib.hid ((F3.aside (c := w1.heap.size) (o := 1) (by omega) (.int .i64 z)).set5 (.int .i64 k) (.int .i64 z) (.int .i64 b) (.int .i64 c) (.slice au g.len cu)).cells
      have K4 := Lib.hid (((K2.out.trans k3).setOther (b := w1.heap.size) (o := 1) (by omega) hrb (.int .i64 z)).set5 w.heap.size (Nat.le_refl _) hrb (.int .i64 k) (.int .i64 z) (.int .i64 b) (.int .i64 c) (.slice au g.len cu))
      have R4 := Lib.hid (((r3.mono (show P + 160 + 1 + 1 ≤ P + 200 by omega)).same (w' := w3.setCell ⟨w1.heap.size, 1, none⟩ (.int .i64 z)) (by simp [World.setCell]) (fun i hi => Below.heap_setCell _ _ _ _ (by simp only; omega))).set5 w.heap.size hrb (.int .i64 k) (.int .i64 z) (.int .i64 b) (.int .i64 c) (.slice au g.len cu))
      have O4 := Lib.hid (((hO.of_same (w' := w3.setCell ⟨w1.heap.size, 1, none⟩ (.int .i64 z)) (by simp [World.setCell]) (fun i h1 h2 => Below.heap_setCell _ _ _ _ (by simp only; omega))).set5 (b := w.heap.size) (by omega) (.int .i64 k) (.int .i64 z) (.int .i64 b) (.int .i64 c) (.slice au g.len cu)).mono (lo' := w.heap.size) (Nat.le_of_lt hwW) (Nat.le_trans hO.1 (by rw [set5_size]; simp [World.setCell])) (Nat.le_refl _))
      clear hO r3 k3 R2 K2 F2 G2 O2 F3 G3
      go_wp2_with fail
      unfold set5 at HU
      obtain ⟨g0, g1, g2, g3, g4⟩ := HU.out
      exact bodyPost_ret (v := .agg #[.int .i64 k, .int .i64 z, .int .i64 b, .int .i64 c, .slice au g.len cu]) (by simp [results, Try.results35, go_sem, g0, g1, g2, g3, g4]) rfl
        ⟨k, z, b, c, _, g, rfl, O4.out, HSm.out.any, R4.out, K4.out⟩
    · have e1 : ((x : Int) == 1) = false := by rw [beq_eq_false_iff_ne]; omega
      by_cases h2 : x = 2
      · subst h2
        have hMd := M1.out.keeps K12.out (by omega)
        have bb : Below w2.heap.size w2 (w2.alloc (.cells #[.int .i64 1, .int .i64 0, .int .i64 0, .int .i64 0, .slice none 0 0] 32)) := (Below.refl _ _).alloc (Nat.le_refl _) _
        have HM5 := Lib.hid (hMd.below bb)
        have HL5 := Lib.hid ((L1.out.of_same K12.out.below.size (fun b h1 h2 _ => K12.out.others b (by omega) (by omega))).below bb)
        have R5 := Lib.hid (R2.out.below bb)
        have K5 := Lib.hid (K2.out.allocK hrb (.cells #[.int .i64 1, .int .i64 0, .int .i64 0, .int .i64 0, .slice none 0 0] 32))
        have F5 := Lib.hid (F2.out.below bb)
        have G5 := Lib.hid (G2.out.below bb)
        obtain ⟨s0, s1, s2, s3, s4⟩ := G2.out.cells
        have hgl := HSm.out.len
        have hnews := Lib.hid (new_one w2 (.int .i64 1) (.int .i64 0) (.int .i64 0) (.int .i64 0) (.slice none 0 0) 32)
        have h1c := Lib.hid (oneCells5 1 0 0 0 none 0 0)
        clear hMd
        go_wp2_with (at_builtin; go_must (refine wpList_append_fm rfl _ _ rfl lo _ g.len C HM5.out.row rfl ⟨w2.heap.size, 0, none⟩ 1 1 [.int .i64 1, .int .i64 0, .int .i64 0, .int .i64 0, .slice none 0 0] rfl rfl hnews.out h1c.out (by omega) (by omega) (Nat.le_trans (by omega) bb.size) ?_))
        intro v' w5 h4 hg hk
        have hk' : ∀ i, v'.ownBlock = some i → (Value.slice au g.len cu).ownBlock = some i ∨ (w2.alloc (.cells #[.int .i64 1, .int .i64 0, .int .i64 0, .int .i64 0, .slice none 0 0] 32)).heap.size ≤ i := fun i hi => by have := hk i hi; simpa using this
        have hJ := (HL5.out.snoc (k := 1) (a := 0) (b := 0) (c := 0) (v := .slice none 0 0) (g := FL.nil) (ownFm_at (Nat.le_trans (Nat.le_of_lt hw2) bb.size)) hlo1 (Nat.le_refl _) V1.out).grown hg hk'
        obtain ⟨av, cv, rfl⟩ := row_shape h4
        have hob : ∀ i, (Value.slice au g.len cu).ownBlock = some i → lo ≤ i := fun i hi => (HM5.out.row.lt i hi).1
        have hV : ∀ i, (Value.slice av (g.len + 1) cv).ownBlock = some i → lo ≤ i ∧ i ≠ w1.heap.size := fun i hi => by
          have h1 := (h4.lt i hi).1
          rcases hk' i hi with h2 | h2
          · have := V1.out i h2; omega
          · have := bb.size; omega
        have K6 : Keeps rb w w5 := K5.out.grown hg hrb (fun i hi => by have := hob i hi; omega)
        have R6 : Rdr w5 rb (P + 160 + 1) := (R5.out.grown hg (fun i hi => by have := hob i hi; omega)).1
        have F6 := F5.out.same (hg.block _ F5.out.lt (fun e => by have := hob _ e.symm; omega))
        have G6 := G5.out.same (hg.block _ G5.out.lt (fun e => by have := V1.out _ e.symm; omega))
        have hs5 : (w2.alloc (.cells #[.int .i64 1, .int .i64 0, .int .i64 0, .int .i64 0, .slice none 0 0] 32)).heap.size ≤ w5.heap.size := hg.size
        have hs2 := bb.size
        obtain ⟨p0, p1, p2, p3, p4⟩ := G6.cells
        obtain ⟨q0, q1, q2, q3, q4⟩ := G6.free
        obtain ⟨t0, t1, t2, t3, t4⟩ := F6.cells
        obtain ⟨y0, y1, y2, y3, y4⟩ := F6.free
        have HU := Lib.hid ((F6.aside (c := w1.heap.size) (o := 4) (by omega) (.slice av (g.len + 1) cv)).set5 (.int .i64 k) (.int .i64 a) (.int .i64 b) (.int .i64 c) (.slice av (g.len + 1) cv)).cells
        have K7 := Lib.hid ((K6.setOther (b := w1.heap.size) (o := 4) (by omega) hrb (.slice av (g.len + 1) cv)).set5 w.heap.size (Nat.le_refl _) hrb (.int .i64 k) (.int .i64 a) (.int .i64 b) (.int .i64 c) (.slice av (g.len + 1) cv))
        have R7 := Lib.hid (((R6.mono (show P + 160 + 1 ≤ P + 200 by omega)).same (w' := w5.setCell ⟨w1.heap.size, 4, none⟩ (.slice av (g.len + 1) cv)) (by simp [World.setCell]) (fun i hi => Below.heap_setCell _ _ _ _ (by simp only; omega))).set5 w.heap.size hrb (.int .i64 k) (.int .i64 a) (.int .i64 b) (.int .i64 c) (.slice av (g.len + 1) cv))
        have hz7 : (set5 (w5.setCell ⟨w1.heap.size, 4, none⟩ (.slice av (g.len + 1) cv)) w.heap.size (.int .i64 k) (.int .i64 a) (.int .i64 b) (.int .i64 c) (.slice av (g.len + 1) cv)).heap.size = w5.heap.size := by rw [set5_size]; simp [World.setCell]
        have hsame : ∀ i, lo ≤ i → i ≠ w1.heap.size → (set5 (w5.setCell ⟨w1.heap.size, 4, none⟩ (.slice av (g.len + 1) cv)) w.heap.size (.int .i64 k) (.int .i64 a) (.int .i64 b) (.int .i64 c) (.slice av (g.len + 1) cv)).heap[i]? = w5.heap[i]? := fun i h1 h2 => by
          rw [set5_same _ _ _ _ _ _ _ i (by omega)]; exact Below.heap_setCell _ _ _ _ (by simpa using h2)
        have hJ7 := hJ.of_same (w' := set5 (w5.setCell ⟨w1.heap.size, 4, none⟩ (.slice av (g.len + 1) cv)) w.heap.size (.int .i64 k) (.int .i64 a) (.int .i64 b) (.int .i64 c) (.slice av (g.len + 1) cv)) (Nat.le_of_eq hz7.symm) (fun i h1 h2 _ => hsame i h1 (by omega))
        have O7 := Lib.hid ((OwnFm.of_row (row_same h4 (fun i hi => hsame i (hV i hi).1 (hV i hi).2)) (show g.len + 1 = (g.app (cons 1 0 0 0 FL.nil FL.nil)).len by rw [len_app]; rfl) hJ7 (Nat.le_refl _)).mono (lo' := w.heap.size) (Nat.le_of_lt hloW) (Nat.le_refl _) (Nat.le_refl _))
        have hsn := Lib.hid (AnyS.snoc HSm.out)
        clear hJ7 hsame hz7 R6 K6 F6 G6 hJ hV hob hk' hk hg h4 R5 K5 F5 G5 HM5 HL5 R2 K2 F2 G2 O2
        go_wp2_with fail
        unfold set5 at HU
        obtain ⟨g0, g1, g2, g3, g4⟩ := HU.out
        exact bodyPost_ret (v := .agg #[.int .i64 k, .int .i64 a, .int .i64 b, .int .i64 c, .slice av (g.len + 1) cv]) (by simp [results, Try.results35, go_sem, g0, g1, g2, g3, g4]) rfl
          ⟨k, a, b, c, _, _, rfl, O7.out, hsn.out, R7.out, K7.out⟩
      · have e2 : ((x : Int) == 2) = false := by rw [beq_eq_false_iff_ne]; omega
        obtain ⟨s0, s1, s2, s3, s4⟩ := G2.out.cells
        obtain ⟨t0, t1, t2, t3, t4⟩ := F2.out.cells
        obtain ⟨y0, y1, y2, y3, y4⟩ := F2.out.free
        have HU := Lib.hid (F2.out.set5 (.int .i64 k) (.int .i64 a) (.int .i64 b) (.int .i64 c) (.slice au g.len cu)).cells
        have K4 := Lib.hid (K2.out.set5 w.heap.size (Nat.le_refl _) hrb (.int .i64 k) (.int .i64 a) (.int .i64 b) (.int .i64 c) (.slice au g.len cu))
        have R4 := Lib.hid ((R2.out.mono (show P + 160 + 1 ≤ P + 200 by omega)).set5 w.heap.size hrb (.int .i64 k) (.int .i64 a) (.int .i64 b) (.int .i64 c) (.slice au g.len cu))
        have O4 := Lib.hid ((O2.out.set5 (b := w.heap.size) (by omega) (.int .i64 k) (.int .i64 a) (.int .i64 b) (.int .i64 c) (.slice au g.len cu)).mono (lo' := w.heap.size) (Nat.le_of_lt hwW) (Nat.le_trans O2.out.1 (by rw [set5_size]; exact Nat.le_refl _)) (Nat.le_refl _))
        clear R2 K2 F2 G2 O2
        go_wp2_with fail
        unfold set5 at HU
        obtain ⟨g0, g1, g2, g3, g4⟩ := HU.out
        exact bodyPost_ret (v := .agg #[.int .i64 k, .int .i64 a, .int .i64 b, .int .i64 c, .slice au g.len cu]) (by simp [results, Try.results35, go_sem, g0, g1, g2, g3, g4]) rfl
          ⟨k, a, b, c, _, g, rfl, O4.out, HSm.out.any, R4.out, K4.out⟩
end Go.Proofs.Ytdloeiaaokhniaa

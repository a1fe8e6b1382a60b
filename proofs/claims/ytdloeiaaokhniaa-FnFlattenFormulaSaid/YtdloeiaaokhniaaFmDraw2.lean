/- randomFormula. -/
import Derived.Test.YtdloeiaaokhniaaFmDraw
namespace Go.Proofs.Ytdloeiaaokhniaa
open Go.RowKit
open FL
set_option maxHeartbeats 4000000
set_option maxRecDepth 100000
set_option linter.unusedVariables false

def DrewF (rb P d : Nat) (w : World) (e : Ending) (w' : World) : Prop := ∃ (k a b c : Int) (u : Value) (g : FL), e = .returned (fmV k a b c u) ∧ OwnFm w.heap.size w'.heap.size w' u g ∧ Small d k a b c g ∧ Rdr w' rb P ∧ Keeps rb w w' ∧ ∃ (lo : Nat) (C : List Value), w.heap.size ≤ lo ∧ lo ≤ w'.heap.size ∧ Made lo w' u g C
def RfOk (d : Nat) : Prop := ∀ (rb P : Nat) (w : World), P + pkb d ≤ 800000 → Rdr w rb P →
  Calls Try.prog 45 #[.pointer (some ⟨rb, 0, none⟩), .int .i64 d] w (DrewF rb (P + pkb d) d w)

def set5 (w : World) (b : Nat) (v0 v1 v2 v3 v4 : Value) : World := ((((w.setCell ⟨b, 0, none⟩ v0).setCell ⟨b, 1, none⟩ v1).setCell ⟨b, 2, none⟩ v2).setCell ⟨b, 3, none⟩ v3).setCell ⟨b, 4, none⟩ v4
theorem set5_same (w : World) (b : Nat) (v0 v1 v2 v3 v4 : Value) (k : Nat) (hk : k ≠ b) : (set5 w b v0 v1 v2 v3 v4).heap[k]? = w.heap[k]? := by
  unfold set5
  rw [Below.heap_setCell _ _ _ _ (by simpa using hk), Below.heap_setCell _ _ _ _ (by simpa using hk), Below.heap_setCell _ _ _ _ (by simpa using hk), Below.heap_setCell _ _ _ _ (by simpa using hk), Below.heap_setCell _ _ _ _ (by simpa using hk)]
theorem set5_size (w : World) (b : Nat) (v0 v1 v2 v3 v4 : Value) : (set5 w b v0 v1 v2 v3 v4).heap.size = w.heap.size := by unfold set5; simp [World.setCell]
theorem set5_below {B : Nat} {a w : World} (h : Below B a w) (b : Nat) (hb : B ≤ b) (v0 v1 v2 v3 v4 : Value) : Below B a (set5 w b v0 v1 v2 v3 v4) :=
  ((((h.setCell (by simpa using hb) _).setCell (by simpa using hb) _).setCell (by simpa using hb) _).setCell (by simpa using hb) _).setCell (by simpa using hb) _
theorem Five.set5 {T : TypeId} {w : World} {b : Nat} {u0 u1 u2 u3 u4 : Value} (h : Five T w b u0 u1 u2 u3 u4) (v0 v1 v2 v3 v4 : Value) : Five T (set5 w b v0 v1 v2 v3 v4) b v0 v1 v2 v3 v4 := ((((h.set0 v0).set1 v1).set2 v2).set3 v3).set4 v4
theorem Rdr.same {w w' : World} {rb P : Nat} (h : Rdr w rb P) (hz : w.heap.size ≤ w'.heap.size) (hs : ∀ k, k ≤ rb → w'.heap[k]? = w.heap[k]?) : Rdr w' rb P := by
  have hc : ∀ b o, b ≤ rb → w'.cell? ⟨b, o, none⟩ = w.cell? ⟨b, o, none⟩ := fun b o hb => World.cell?_of_block (w := w) (hs b hb)
  refine ⟨Nat.lt_of_lt_of_le h.lies hz, (World.frozen?_of_block (w := w) (hs rb (Nat.le_refl _))).trans h.free, ?_⟩
  obtain ⟨sv, len, cap, k, hk, hl, c0, c1, r⟩ := h.held
  refine ⟨sv, len, cap, k, hk, hl, (hc _ _ (Nat.le_refl _)).trans c0, (hc _ _ (Nat.le_refl _)).trans c1, ?_⟩
  rcases r with r | ⟨b, off, z, e, hbr, hz⟩
  · exact .inl r
  · exact .inr ⟨b, off, z, e, hbr, fun i hi => by rw [hc _ _ (Nat.le_of_lt hbr)]; exact hz i hi⟩
theorem Rdr.set5 {w : World} {rb P : Nat} (h : Rdr w rb P) (b : Nat) (hb : rb < b) (v0 v1 v2 v3 v4 : Value) : Rdr (set5 w b v0 v1 v2 v3 v4) rb P :=
  h.same (Nat.le_of_eq (set5_size ..).symm) (fun k hk => set5_same _ _ _ _ _ _ _ k (by omega))
theorem Keeps.set5 {rb : Nat} {w w' : World} (h : Keeps rb w w') (b : Nat) (hb : w.heap.size ≤ b) (hrb : rb < w.heap.size) (v0 v1 v2 v3 v4 : Value) : Keeps rb w (set5 w' b v0 v1 v2 v3 v4) :=
  ⟨set5_below h.below b (by omega) _ _ _ _ _, fun k hk hne => (set5_same _ _ _ _ _ _ _ k (by omega)).trans (h.others k hk hne)⟩
theorem OwnFm.set5 {lo hi b : Nat} {w : World} {v : Value} {g : FL} (h : OwnFm lo hi w v g) (hb : b < lo) (v0 v1 v2 v3 v4 : Value) : OwnFm lo hi (set5 w b v0 v1 v2 v3 v4) v g :=
  h.of_same (Nat.le_of_eq (set5_size ..).symm) (fun k h1 _ => set5_same _ _ _ _ _ _ _ k (by omega))

theorem Made.set5 {lo b : Nat} {w : World} {v : Value} {P : FL} {C : List Value} (h : Made lo w v P C) (hb : b < lo) (v0 v1 v2 v3 v4 : Value) : Made lo (set5 w b v0 v1 v2 v3 v4) v P C :=
  ((((h.aside (o := 0) (u := v0) hb).aside (o := 1) (u := v1) hb).aside (o := 2) (u := v2) hb).aside (o := 3) (u := v3) hb).aside (o := 4) (u := v4) hb
theorem Keeps.below_size {rb : Nat} {w w' : World} (h : Keeps rb w w') : w.heap.size ≤ w'.heap.size := h.below.size
/-- The three draws of a symbol. -/
theorem rf_leaf (rb P : Nat) (w : World) (hP : P + pkb 0 ≤ 800000) (hR : Rdr w rb P) :
    Calls Try.prog 45 #[.pointer (some ⟨rb, 0, none⟩), .int .i64 0] w (DrewF rb (P + pkb 0) 0 w) := by
  have hrb := hR.lies
  have R0 := Lib.hid (hR.allocR (.cells #[.int .i64 0, .int .i64 0, .int .i64 0, .int .i64 0, .slice none 0 0] 32))
  have K0 := Lib.hid ((Keeps.refl rb w).allocK hrb (.cells #[.int .i64 0, .int .i64 0, .int .i64 0, .int .i64 0, .slice none 0 0] 32))
  have F0 := Lib.hid (Five.new 32 w (.int .i64 0) (.int .i64 0) (.int .i64 0) (.int .i64 0) (.slice none 0 0))
  have hne : w.heap.size ≠ rb := by omega
  clear hR
  simp only [pkb] at hP ⊢
  go_enter Try.func45, Try.ntmps45
  go_wp2_with fail
  generalize w.alloc (.cells #[.int .i64 0, .int .i64 0, .int .i64 0, .int .i64 0, .slice none 0 0] 32) = W at *
  refine (pick_pos rb (P) 8 W (by omega) (by omega) R0.out).mono ?_
  rintro e w1 ⟨x1, hx1, rfl, r1, k1⟩
  have R1 := Lib.hid r1
  have K1 := Lib.hid (K0.out.trans k1)
  have F1 := Lib.hid (F0.out.keeps k1 hne)
  clear r1 k1 R0 K0 F0
  go_wp2_with fail
  refine (pick_pos rb (P + 1) 9 _ (by omega) (by omega) R1.out).mono ?_
  rintro e w2 ⟨x2, hx2, rfl, r2, k2⟩
  have R2 := Lib.hid r2
  have K2 := Lib.hid (K1.out.trans k2)
  have F2 := Lib.hid (F1.out.keeps k2 hne)
  clear r2 k2 R1 K1 F1
  go_wp2_with fail
  refine (pick_pos rb (P + 1 + 1) 4 _ (by omega) (by omega) R2.out).mono ?_
  rintro e w3 ⟨x3, hx3, rfl, r3, k3⟩
  have F3 := F2.out.keeps k3 hne
  obtain ⟨t0, t1, t2, t3, t4⟩ := F3.cells
  obtain ⟨y0, y1, y2, y3, y4⟩ := F3.free
  have HU := Lib.hid (F3.set5 (.int .i64 1) (.int .i64 (1 + (x1 : Int))) (.int .i64 x2) (.int .i64 x3) (.slice none 0 0)).cells
  have K4 := Lib.hid ((K2.out.trans k3).set5 w.heap.size (Nat.le_refl _) hrb (.int .i64 1) (.int .i64 (1 + (x1 : Int))) (.int .i64 x2) (.int .i64 x3) (.slice none 0 0))
  have R4 := Lib.hid (r3.set5 w.heap.size hrb (.int .i64 1) (.int .i64 (1 + (x1 : Int))) (.int .i64 x2) (.int .i64 x3) (.slice none 0 0))
  clear r3 k3 R2 K2 F2 F3
  go_wp2_with fail
  unfold set5 at HU
  obtain ⟨g0, g1, g2, g3, g4⟩ := HU.out
  exact bodyPost_ret (v := .agg #[.int .i64 1, .int .i64 (1 + (x1 : Int)), .int .i64 x2, .int .i64 x3, .slice none 0 0]) (by simp [results, Try.results45, go_sem, g0, g1, g2, g3, g4]) rfl
    ⟨1, 1 + x1, x2, x3, _, FL.nil, rfl, ownFm_nil K4.out.below_size, Small.leaf _ _ _ _ (by omega) (by omega) (by omega), R4.out.mono (by omega), K4.out, w.heap.size, [], Nat.le_refl _, K4.out.below_size, Made.start _ _⟩

theorem rf_step (d : Nat) (hd : d ≤ 5) (IH : RfOk d) : RfOk (d + 1) := by
  intro rb P w hP hR
  have hrb := hR.lies
  have R0 := Lib.hid (hR.allocR (.cells #[.int .i64 0, .int .i64 0, .int .i64 0, .int .i64 0, .slice none 0 0] 32))
  have K0 := Lib.hid ((Keeps.refl rb w).allocK hrb (.cells #[.int .i64 0, .int .i64 0, .int .i64 0, .int .i64 0, .slice none 0 0] 32))
  have F0 := Lib.hid (Five.new 32 w (.int .i64 0) (.int .i64 0) (.int .i64 0) (.int .i64 0) (.slice none 0 0))
  have hne : w.heap.size ≠ rb := by omega
  have HI := Lib.hid IH
  clear hR IH
  simp only [pkb] at hP ⊢
  generalize hpk : pkb d = pk at *
  obtain ⟨lv, hlv⟩ : ∃ lv : Int, ((d + 1 : Nat) : Int) = lv := ⟨_, rfl⟩
  have q0 : (lv == 0) = false := by rw [beq_eq_false_iff_ne]; omega
  have hs : IntKind.i64.wrap (lv - 1) = (d : Int) := by rw [show lv - 1 = (d : Int) by omega]; exact IntWalk.i64_in _ (by omega)
  rw [hlv]
  clear hlv
  go_enter Try.func45, Try.ntmps45
  go_wp2_with fail
  generalize w.alloc (.cells #[.int .i64 0, .int .i64 0, .int .i64 0, .int .i64 0, .slice none 0 0] 32) = W at *
  refine (pick_pos rb P 3 W (by omega) (by omega) R0.out).mono ?_
  rintro e w1 ⟨x0, hx0, rfl, r1, k1⟩
  have R1 := Lib.hid r1
  have K1 := Lib.hid (K0.out.trans k1)
  have F1 := Lib.hid (F0.out.keeps k1 hne)
  clear r1 k1 R0 K0 F0
  by_cases hz : x0 = 0
  · subst hz
    have R0 := R1
    have K0 := K1
    have F0 := F1
    clear R1 K1 F1
    go_wp2_with fail
    refine (pick_pos rb (P + 1) 8 _ (by omega) (by omega) R0.out).mono ?_
    rintro e w1 ⟨x1, hx1, rfl, r1, k1⟩
    have R1 := Lib.hid r1
    have K1 := Lib.hid (K0.out.trans k1)
    have F1 := Lib.hid (F0.out.keeps k1 hne)
    clear r1 k1 R0 K0 F0
    go_wp2_with fail
    refine (pick_pos rb (P + 1 + 1) 9 _ (by omega) (by omega) R1.out).mono ?_
    rintro e w2 ⟨x2, hx2, rfl, r2, k2⟩
    have R2 := Lib.hid r2
    have K2 := Lib.hid (K1.out.trans k2)
    have F2 := Lib.hid (F1.out.keeps k2 hne)
    clear r2 k2 R1 K1 F1
    go_wp2_with fail
    refine (pick_pos rb (P + 1 + 1 + 1) 4 _ (by omega) (by omega) R2.out).mono ?_
    rintro e w3 ⟨x3, hx3, rfl, r3, k3⟩
    have F3 := F2.out.keeps k3 hne
    obtain ⟨t0, t1, t2, t3, t4⟩ := F3.cells
    obtain ⟨y0, y1, y2, y3, y4⟩ := F3.free
    have HU := Lib.hid (F3.set5 (.int .i64 1) (.int .i64 (1 + (x1 : Int))) (.int .i64 x2) (.int .i64 x3) (.slice none 0 0)).cells
    have K4 := Lib.hid ((K2.out.trans k3).set5 w.heap.size (Nat.le_refl _) hrb (.int .i64 1) (.int .i64 (1 + (x1 : Int))) (.int .i64 x2) (.int .i64 x3) (.slice none 0 0))
    have R4 := Lib.hid (r3.set5 w.heap.size hrb (.int .i64 1) (.int .i64 (1 + (x1 : Int))) (.int .i64 x2) (.int .i64 x3) (.slice none 0 0))
    clear r3 k3 R2 K2 F2 F3
    go_wp2_with fail
    unfold set5 at HU
    obtain ⟨g0, g1, g2, g3, g4⟩ := HU.out
    exact bodyPost_ret (v := .agg #[.int .i64 1, .int .i64 (1 + (x1 : Int)), .int .i64 x2, .int .i64 x3, .slice none 0 0]) (by simp [results, Try.results45, go_sem, g0, g1, g2, g3, g4]) rfl
      ⟨1, 1 + x1, x2, x3, _, FL.nil, rfl, ownFm_nil K4.out.below_size, Small.leaf _ _ _ _ (by omega) (by omega) (by omega), R4.out.mono (by omega), K4.out, w.heap.size, [], Nat.le_refl _, K4.out.below_size, Made.start _ _⟩
  · have hze : ((x0 : Int) == 0) = false := by simpa using hz
    go_wp2_with fail
    refine (pick_pos rb (P + 1) 5 _ (by omega) (by omega) R1.out).mono ?_
    rintro e w2 ⟨x2, hx2, rfl, r2, k2⟩
    have b2 : Below w2.heap.size w2 (w2.alloc (.cells #[.int .i64 (2 + (x2 : Int)), .int .i64 0, .int .i64 0, .int .i64 0, .slice none 0 0] 32)) := (Below.refl _ _).alloc (Nat.le_refl _) _
    have R2 := Lib.hid (r2.below b2)
    have K2 := Lib.hid ((K1.out.trans k2).trans (Keeps.of_below (Nat.lt_of_lt_of_le hrb (K1.out.trans k2).below.size) b2))
    have F2 := Lib.hid ((F1.out.keeps k2 hne).below b2)
    have G2 := Lib.hid (Five.new 32 w2 (.int .i64 (2 + (x2 : Int))) (.int .i64 0) (.int .i64 0) (.int .i64 0) (.slice none 0 0))
    have hw2 : w.heap.size < w2.heap.size := (F1.out.keeps k2 hne).lt
    have hsz2 : w2.heap.size + 1 = (w2.alloc (.cells #[.int .i64 (2 + (x2 : Int)), .int .i64 0, .int .i64 0, .int .i64 0, .slice none 0 0] 32)).heap.size := by simp
    clear r2 k2 b2 R1 K1 F1 hz hze
    go_wp2_with fail
    generalize w2.alloc (.cells #[.int .i64 (2 + (x2 : Int)), .int .i64 0, .int .i64 0, .int .i64 0, .slice none 0 0] 32) = W2 at *
    refine (kidsOf_any (2 + (x2 : Int)) W2).mono ?_
    rintro e w3 ⟨rfl, rfl⟩
    have hk26 : 2 ≤ 2 + (x2 : Int) ∧ 2 + (x2 : Int) ≤ 6 := by omega
    clear hx2
    generalize 2 + (x2 : Int) = kk at *
    obtain ⟨z, hz⟩ : ∃ z, kidsZ kk = z := ⟨_, rfl⟩
    have hz2 : (z = -2 ∧ kk = 2) ∨ (z = 2 ∧ (kk = 3 ∨ kk = 4 ∨ kk = 5)) ∨ (z = 1 ∧ kk = 6) := by
      unfold kidsZ at hz
      rw [if_neg (by omega)] at hz
      split at hz
      · omega
      · split at hz
        · omega
        · rw [if_pos (by omega)] at hz; omega
    rw [hz]
    clear hz
    rcases (show (z = -2 ∧ kk = 2) ∨ (0 ≤ z ∧ ∀ n : Nat, z = n → (kk = 2 ∧ n ≤ 3) ∨ (kk = 3 ∧ n = 2) ∨ (kk = 4 ∧ n = 2) ∨ (kk = 5 ∧ n = 2) ∨ (kk = 6 ∧ n = 1)) by
      rcases hz2 with h | ⟨rfl, h⟩ | ⟨rfl, h⟩
      · exact .inl h
      · exact .inr ⟨by omega, fun n hn => by omega⟩
      · exact .inr ⟨by omega, fun n hn => by omega⟩) with ⟨rfl, hk2⟩ | ⟨hz0, har⟩
    · go_wp2_with fail
      refine (pick_pos rb (P + 1 + 1) 4 _ (by omega) (by omega) R2.out).mono ?_
      rintro e w4 ⟨n, hn, rfl, r4, k4⟩
      have har : (kk = 2 ∧ n ≤ 3) ∨ (kk = 3 ∧ n = 2) ∨ (kk = 4 ∧ n = 2) ∨ (kk = 5 ∧ n = 2) ∨ (kk = 6 ∧ n = 1) := .inl ⟨hk2, by omega⟩
      clear hk2
      have RX := Lib.hid r4
      have KX := Lib.hid (K2.out.trans k4)
      have FX := Lib.hid (F2.out.keeps k4 hne)
      have GX := Lib.hid (G2.out.keeps k4 (by omega))
      have hZX : w2.heap.size + 1 ≤ w4.heap.size := by have := k4.below.size; omega
      clear r4 k4 R2 K2 F2 G2 hz2 hn
      go_wp2_with fail
      go_loopw [7] (fun i wr => ∃ j : Nat, j ≤ n ∧ i = .int .i64 j ∧ Hid (Rdr wr rb (P + 3 + j * pk)) ∧ Hid (Keeps rb w wr) ∧ Hid (Five 32 wr w.heap.size (.int .i64 0) (.int .i64 0) (.int .i64 0) (.int .i64 0) (.slice none 0 0)) ∧ Hid (w2.heap.size + 1 ≤ wr.heap.size) ∧ Hid (∃ (Pf : FL) (C : List Value) (vo : Value), KidsS d Pf j ∧ Five 32 wr w2.heap.size (.int .i64 kk) (.int .i64 0) (.int .i64 0) (.int .i64 0) vo ∧ Made (w2.heap.size + 1) wr vo Pf C)) (fun i _ => n - (intOf i).toNat)
      case atStart => exact ⟨0, by omega, rfl, Lib.hid (RX.out.mono (by omega)), KX, FX, Lib.hid hZX, Lib.hid ⟨FL.nil, [], _, KidsS.nil d, GX.out, Made.start _ _⟩⟩
      case round =>
        clear RX KX FX GX hZX
        obtain ⟨j, hj, rfl, HR, HK, HF, hZ, HM⟩ := hrel
        by_cases hlt : j < n
        · obtain ⟨Pf, C, vo, hKs, hG, hMd⟩ := HM.out
          obtain ⟨avo, cvo, rfl⟩ := row_shape hMd.row
          have HPl := Lib.hid hKs.len
          have hjp : j * pk ≤ 2 * pk := Nat.mul_le_mul_right pk (by omega)
          have hj1 : (j + 1) * pk = j * pk + pk := by rw [Nat.add_mul, Nat.one_mul]
          have HS := Lib.hid (fun (w' : World) (h : Rdr w' rb (P + 3 + j * pk)) => by
            have h0 := HI.out rb (P + 3 + j * pk) w' (by rw [hpk]; omega) h
            rw [hpk] at h0
            exact h0)
          unfold DrewF fmV at HS
          have HRd : Hid (Rdr (wr.drewN 1) rb (P + 3 + j * pk)) := Lib.hid (HR.out.drewN 1)
          have HKd : Hid (Keeps rb w (wr.drewN 1)) := Lib.hid (HK.out.trans ⟨⟨rfl, rfl, rfl, Nat.le_refl _, fun _ _ => rfl⟩, fun _ _ _ => rfl⟩)
          have HFd : Hid (Five 32 (wr.drewN 1) w.heap.size (.int .i64 0) (.int .i64 0) (.int .i64 0) (.int .i64 0) (.slice none 0 0)) := Lib.hid (HF.out.same rfl)
          have HGd : Hid (Five 32 (wr.drewN 1) w2.heap.size (.int .i64 kk) (.int .i64 0) (.int .i64 0) (.int .i64 0) (.slice avo Pf.len cvo)) := Lib.hid (hG.same rfl)
          have HMd : Hid (Made (w2.heap.size + 1) (wr.drewN 1) (.slice avo Pf.len cvo) Pf C) := Lib.hid (hMd.below ⟨rfl, rfl, rfl, Nat.le_refl _, fun _ _ => rfl⟩)
          have hZd : Hid (w2.heap.size + 1 ≤ (wr.drewN 1).heap.size) := Lib.hid hZ.out
          have HKs := Lib.hid hKs
          obtain ⟨o0, o1, o2, o3, o4⟩ := hG.cells
          obtain ⟨y0, y1, y2, y3, y4⟩ := hG.free
          have hrw2 : rb < w2.heap.size := by omega
          have hrne : w2.heap.size ≠ rb := by omega
          clear HM hG hMd hKs HR HK HF
          go_wp2_with fail
          go_region_law (first
            | (refine step_append_fm rfl _ _ rfl (w2.heap.size + 1) _ Pf.len C HM9.out.row rfl ⟨w7.heap.size, 0, none⟩ 1 1 [.int .i64 k', .int .i64 a', .int .i64 b', .int .i64 c', .slice au g'.len cu] rfl rfl (new_one w7 _ _ _ _ _ _) (oneCells5 _ _ _ _ _ _ _) (Nat.le_refl _) (by have := HPl.out; omega) hZ9.out ?_; intro v' w8 h4 hg hk; obtain ⟨av, cv, rfl⟩ := row_shape h4; have HG8 := Lib.hid (HG9.out.same (hg.block _ HG9.out.lt (fun e => by have := (HM9.out.row.lt _ e.symm).1; omega))); obtain ⟨p0, p1, p2, p3, p4⟩ := HG8.out.cells; obtain ⟨q0, q1, q2, q3, q4⟩ := HG8.out.free)
            | (go_simp; go_at_call 45; refine (HS.out _ HRd.out).mono ?_; rintro e w7 ⟨k', a', b', c', u, g', rfl, ou, hsm, hR7, hK7, -⟩; obtain ⟨au, cu, rfl, _⟩ := ou.shape; have HG7 := Lib.hid (HGd.out.keeps hK7 hrne); obtain ⟨m0, m1, m2, m3, m4⟩ := HG7.out.cells; obtain ⟨n0, n1, n2, n3, n4⟩ := HG7.out.free; have ba : Below w7.heap.size w7 (w7.alloc (.cells #[.int .i64 k', .int .i64 a', .int .i64 b', .int .i64 c', .slice au g'.len cu] 32)) := (Below.refl _ _).alloc (Nat.le_refl _) _; have HM7 := Lib.hid (HMd.out.keeps hK7 (by omega)); have HM9 := Lib.hid (HM7.out.below ba); have hZ9 := Lib.hid (Nat.le_trans (Nat.le_trans hZd.out hK7.below.size) ba.size); have HG9 := Lib.hid (HG7.out.below ba); have hltG := HG7.out.lt))
          all_goals
            have hob : ∀ i, (Value.slice avo Pf.len cvo).ownBlock = some i → w2.heap.size + 1 ≤ i := fun i hi => (HM9.out.row.lt i hi).1
            have hlo7 := ((HMd.out.kids.of_same hK7.below.size (fun b h1 h2 _ => hK7.others b h2 (by omega))).below ba)
            have HM8 := Made.snoc (k := k') (a := a') (b := b') (c := c') HM9.out ((ou.below ba).mono (Nat.le_refl _) ba.size (Nat.le_refl _)) hlo7 hZd.out (Nat.le_trans hK7.below.size ba.size) (fun i hi => (HMd.out.row.lt i hi).2) h4 hg hk
            have K7 := HKd.out.trans hK7
            have K9 := K7.trans (Keeps.of_below (Nat.lt_of_lt_of_le hrb K7.below.size) ba)
            have K8 : Keeps rb w w8 := ⟨K9.below.grown hg (Nat.le_of_lt (Nat.lt_of_lt_of_le hrb K9.below.size)) (fun i hi => by have := hob i hi; omega), fun i hi hne => (hg.block i (Nat.lt_of_lt_of_le hi K9.below.size) (fun e => by have := hob i e.symm; omega)).trans (K9.others i hi hne)⟩
            have R8 : Rdr w8 rb (P + 3 + j * pk + pk) := (hR7.below ba).same hg.size (fun i hi => hg.block i (Nat.lt_of_le_of_lt hi (Nat.lt_of_lt_of_le hrb K9.below.size)) (fun e => by have := hob i e.symm; omega))
            have F8 := ((HFd.out.keeps hK7 (by omega)).below ba).same (hg.block _ (Five.lt ((HFd.out.keeps hK7 (by omega)).below ba)) (fun e => by have := hob _ e.symm; omega))
            have HR9 : Hid (Rdr (w8.setCell ⟨w2.heap.size, 4, none⟩ (.slice av (Pf.len + 1) cv)) rb (P + 3 + (j + 1) * pk)) := Lib.hid ((R8.same (by simp [World.setCell]) (fun i hi => Below.heap_setCell _ _ _ _ (by simp only; omega))).mono (by omega))
            have HK9 := Lib.hid (K8.setOther (b := w2.heap.size) (o := 4) (Nat.le_of_lt hw2) hrb (.slice av (Pf.len + 1) cv))
            have HF9 := Lib.hid (F8.aside (c := w2.heap.size) (o := 4) (by omega) (.slice av (Pf.len + 1) cv))
            have HZ9 : Hid (w2.heap.size + 1 ≤ (w8.setCell ⟨w2.heap.size, 4, none⟩ (.slice av (Pf.len + 1) cv)).heap.size) := Lib.hid (by have := Nat.le_trans hZ9.out hg.size; simpa [World.setCell] using this)
            have HX9 := Lib.hid (And.intro (HKs.out.snoc hsm) (And.intro (HG8.out.set4 (.slice av (Pf.len + 1) cv)) (HM8.aside (b := w2.heap.size) (o := 4) (u := .slice av (Pf.len + 1) cv) (by omega))))
            clear hob hlo7 HM8 K7 K9 K8 R8 F8 h4 hg hk HG8 p0 p1 p2 p3 p4 q0 q1 q2 q3 q4 HS HRd HKd HFd HGd HMd hZd HKs m0 m1 m2 m3 m4 n0 n1 n2 n3 n4 ba HM7 HM9 hZ9 HG9 HG7 hltG ou hsm hR7 hK7 o0 o1 o2 o3 o4 y0 y1 y2 y3 y4
            go_wp2_with fail
            go_roundw
            case rel => exact ⟨j + 1, by omega, by first | rfl | go_num, HR9, HK9, HF9, HZ9, Lib.hid ⟨_, _, _, HX9.out.1, HX9.out.2.1, HX9.out.2.2⟩⟩
            case measure => simp [intOf]; omega
        · obtain rfl : j = n := by omega
          obtain ⟨Pf, C, vo, hKs, hG, hMd⟩ := HM.out
          have hjp : j * pk ≤ 3 * pk := Nat.mul_le_mul_right pk (by omega)
          obtain ⟨avo, cvo, rfl⟩ := row_shape hMd.row
          obtain ⟨o0, o1, o2, o3, o4⟩ := hG.cells
          obtain ⟨t0, t1, t2, t3, t4⟩ := HF.out.cells
          obtain ⟨y0, y1, y2, y3, y4⟩ := HF.out.free
          have HU := Lib.hid (HF.out.set5 (.int .i64 kk) (.int .i64 0) (.int .i64 0) (.int .i64 0) (.slice avo Pf.len cvo)).cells
          have K4 := Lib.hid (HK.out.set5 w.heap.size (Nat.le_refl _) hrb (.int .i64 kk) (.int .i64 0) (.int .i64 0) (.int .i64 0) (.slice avo Pf.len cvo))
          have R4 := Lib.hid ((HR.out.mono (show P + 3 + j * pk ≤ P + (4 + 3 * pk) by omega)).set5 w.heap.size hrb (.int .i64 kk) (.int .i64 0) (.int .i64 0) (.int .i64 0) (.slice avo Pf.len cvo))
          have O4 := Lib.hid ((hMd.own.set5 (b := w.heap.size) (by omega) (.int .i64 kk) (.int .i64 0) (.int .i64 0) (.int .i64 0) (.slice avo Pf.len cvo)).mono (lo' := w.heap.size) (by omega) (Nat.le_of_eq (set5_size ..).symm) (Nat.le_refl _))
          have M4 := Lib.hid (hMd.set5 (b := w.heap.size) (by omega) (.int .i64 kk) (.int .i64 0) (.int .i64 0) (.int .i64 0) (.slice avo Pf.len cvo))
          have hSm := Lib.hid (hKs.small har)
          have hMs := Lib.hid hMd.row.1
          clear hKs hG hMd HM HR HK HF hjp
          go_wp2_with fail
          unfold set5 at HU
          obtain ⟨g0, g1, g2, g3, g4⟩ := HU.out
          exact bodyPost_ret (v := .agg #[.int .i64 kk, .int .i64 0, .int .i64 0, .int .i64 0, .slice avo Pf.len cvo]) (by simp [results, Try.results45, go_sem, g0, g1, g2, g3, g4]) rfl
            ⟨kk, 0, 0, 0, _, Pf, rfl, O4.out, hSm.out, R4.out, K4.out, _, _, (by omega), (Nat.le_trans hZ.out (Nat.le_of_eq (set5_size wr w.heap.size (.int .i64 kk) (.int .i64 0) (.int .i64 0) (.int .i64 0) (.slice avo Pf.len cvo)).symm)), M4.out⟩
    · obtain ⟨n, rfl⟩ := Int.eq_ofNat_of_zero_le hz0
      have har := har n rfl
      have hzz : decide ((n : Int) < 0) = false := decide_eq_false (by omega)
      have RX := Lib.hid (R2.out.mono (show P + 1 + 1 ≤ P + 1 + 1 + 1 by omega))
      have KX := K2
      have FX := F2
      have GX := G2
      have hZX : w2.heap.size + 1 ≤ W2.heap.size := by omega
      clear R2 K2 F2 G2 hz2 hz0
      go_wp2_with fail
      go_loopw [7] (fun i wr => ∃ j : Nat, j ≤ n ∧ i = .int .i64 j ∧ Hid (Rdr wr rb (P + 3 + j * pk)) ∧ Hid (Keeps rb w wr) ∧ Hid (Five 32 wr w.heap.size (.int .i64 0) (.int .i64 0) (.int .i64 0) (.int .i64 0) (.slice none 0 0)) ∧ Hid (w2.heap.size + 1 ≤ wr.heap.size) ∧ Hid (∃ (Pf : FL) (C : List Value) (vo : Value), KidsS d Pf j ∧ Five 32 wr w2.heap.size (.int .i64 kk) (.int .i64 0) (.int .i64 0) (.int .i64 0) vo ∧ Made (w2.heap.size + 1) wr vo Pf C)) (fun i _ => n - (intOf i).toNat)
      case atStart => exact ⟨0, by omega, rfl, Lib.hid (RX.out.mono (by omega)), KX, FX, Lib.hid hZX, Lib.hid ⟨FL.nil, [], _, KidsS.nil d, GX.out, Made.start _ _⟩⟩
      case round =>
        clear RX KX FX GX hZX
        obtain ⟨j, hj, rfl, HR, HK, HF, hZ, HM⟩ := hrel
        by_cases hlt : j < n
        · obtain ⟨Pf, C, vo, hKs, hG, hMd⟩ := HM.out
          obtain ⟨avo, cvo, rfl⟩ := row_shape hMd.row
          have HPl := Lib.hid hKs.len
          have hjp : j * pk ≤ 2 * pk := Nat.mul_le_mul_right pk (by omega)
          have hj1 : (j + 1) * pk = j * pk + pk := by rw [Nat.add_mul, Nat.one_mul]
          have HS := Lib.hid (fun (w' : World) (h : Rdr w' rb (P + 3 + j * pk)) => by
            have h0 := HI.out rb (P + 3 + j * pk) w' (by rw [hpk]; omega) h
            rw [hpk] at h0
            exact h0)
          unfold DrewF fmV at HS
          have HRd : Hid (Rdr (wr.drewN 1) rb (P + 3 + j * pk)) := Lib.hid (HR.out.drewN 1)
          have HKd : Hid (Keeps rb w (wr.drewN 1)) := Lib.hid (HK.out.trans ⟨⟨rfl, rfl, rfl, Nat.le_refl _, fun _ _ => rfl⟩, fun _ _ _ => rfl⟩)
          have HFd : Hid (Five 32 (wr.drewN 1) w.heap.size (.int .i64 0) (.int .i64 0) (.int .i64 0) (.int .i64 0) (.slice none 0 0)) := Lib.hid (HF.out.same rfl)
          have HGd : Hid (Five 32 (wr.drewN 1) w2.heap.size (.int .i64 kk) (.int .i64 0) (.int .i64 0) (.int .i64 0) (.slice avo Pf.len cvo)) := Lib.hid (hG.same rfl)
          have HMd : Hid (Made (w2.heap.size + 1) (wr.drewN 1) (.slice avo Pf.len cvo) Pf C) := Lib.hid (hMd.below ⟨rfl, rfl, rfl, Nat.le_refl _, fun _ _ => rfl⟩)
          have hZd : Hid (w2.heap.size + 1 ≤ (wr.drewN 1).heap.size) := Lib.hid hZ.out
          have HKs := Lib.hid hKs
          obtain ⟨o0, o1, o2, o3, o4⟩ := hG.cells
          obtain ⟨y0, y1, y2, y3, y4⟩ := hG.free
          have hrw2 : rb < w2.heap.size := by omega
          have hrne : w2.heap.size ≠ rb := by omega
          clear HM hG hMd hKs HR HK HF
          go_wp2_with fail
          go_region_law (first
            | (refine step_append_fm rfl _ _ rfl (w2.heap.size + 1) _ Pf.len C HM9.out.row rfl ⟨w7.heap.size, 0, none⟩ 1 1 [.int .i64 k', .int .i64 a', .int .i64 b', .int .i64 c', .slice au g'.len cu] rfl rfl (new_one w7 _ _ _ _ _ _) (oneCells5 _ _ _ _ _ _ _) (Nat.le_refl _) (by have := HPl.out; omega) hZ9.out ?_; intro v' w8 h4 hg hk; obtain ⟨av, cv, rfl⟩ := row_shape h4; have HG8 := Lib.hid (HG9.out.same (hg.block _ HG9.out.lt (fun e => by have := (HM9.out.row.lt _ e.symm).1; omega))); obtain ⟨p0, p1, p2, p3, p4⟩ := HG8.out.cells; obtain ⟨q0, q1, q2, q3, q4⟩ := HG8.out.free)
            | (go_simp; go_at_call 45; refine (HS.out _ HRd.out).mono ?_; rintro e w7 ⟨k', a', b', c', u, g', rfl, ou, hsm, hR7, hK7, -⟩; obtain ⟨au, cu, rfl, _⟩ := ou.shape; have HG7 := Lib.hid (HGd.out.keeps hK7 hrne); obtain ⟨m0, m1, m2, m3, m4⟩ := HG7.out.cells; obtain ⟨n0, n1, n2, n3, n4⟩ := HG7.out.free; have ba : Below w7.heap.size w7 (w7.alloc (.cells #[.int .i64 k', .int .i64 a', .int .i64 b', .int .i64 c', .slice au g'.len cu] 32)) := (Below.refl _ _).alloc (Nat.le_refl _) _; have HM7 := Lib.hid (HMd.out.keeps hK7 (by omega)); have HM9 := Lib.hid (HM7.out.below ba); have hZ9 := Lib.hid (Nat.le_trans (Nat.le_trans hZd.out hK7.below.size) ba.size); have HG9 := Lib.hid (HG7.out.below ba); have hltG := HG7.out.lt))
          all_goals
            have hob : ∀ i, (Value.slice avo Pf.len cvo).ownBlock = some i → w2.heap.size + 1 ≤ i := fun i hi => (HM9.out.row.lt i hi).1
            have hlo7 := ((HMd.out.kids.of_same hK7.below.size (fun b h1 h2 _ => hK7.others b h2 (by omega))).below ba)
            have HM8 := Made.snoc (k := k') (a := a') (b := b') (c := c') HM9.out ((ou.below ba).mono (Nat.le_refl _) ba.size (Nat.le_refl _)) hlo7 hZd.out (Nat.le_trans hK7.below.size ba.size) (fun i hi => (HMd.out.row.lt i hi).2) h4 hg hk
            have K7 := HKd.out.trans hK7
            have K9 := K7.trans (Keeps.of_below (Nat.lt_of_lt_of_le hrb K7.below.size) ba)
            have K8 : Keeps rb w w8 := ⟨K9.below.grown hg (Nat.le_of_lt (Nat.lt_of_lt_of_le hrb K9.below.size)) (fun i hi => by have := hob i hi; omega), fun i hi hne => (hg.block i (Nat.lt_of_lt_of_le hi K9.below.size) (fun e => by have := hob i e.symm; omega)).trans (K9.others i hi hne)⟩
            have R8 : Rdr w8 rb (P + 3 + j * pk + pk) := (hR7.below ba).same hg.size (fun i hi => hg.block i (Nat.lt_of_le_of_lt hi (Nat.lt_of_lt_of_le hrb K9.below.size)) (fun e => by have := hob i e.symm; omega))
            have F8 := ((HFd.out.keeps hK7 (by omega)).below ba).same (hg.block _ (Five.lt ((HFd.out.keeps hK7 (by omega)).below ba)) (fun e => by have := hob _ e.symm; omega))
            have HR9 : Hid (Rdr (w8.setCell ⟨w2.heap.size, 4, none⟩ (.slice av (Pf.len + 1) cv)) rb (P + 3 + (j + 1) * pk)) := Lib.hid ((R8.same (by simp [World.setCell]) (fun i hi => Below.heap_setCell _ _ _ _ (by simp only; omega))).mono (by omega))
            have HK9 := Lib.hid (K8.setOther (b := w2.heap.size) (o := 4) (Nat.le_of_lt hw2) hrb (.slice av (Pf.len + 1) cv))
            have HF9 := Lib.hid (F8.aside (c := w2.heap.size) (o := 4) (by omega) (.slice av (Pf.len + 1) cv))
            have HZ9 : Hid (w2.heap.size + 1 ≤ (w8.setCell ⟨w2.heap.size, 4, none⟩ (.slice av (Pf.len + 1) cv)).heap.size) := Lib.hid (by have := Nat.le_trans hZ9.out hg.size; simpa [World.setCell] using this)
            have HX9 := Lib.hid (And.intro (HKs.out.snoc hsm) (And.intro (HG8.out.set4 (.slice av (Pf.len + 1) cv)) (HM8.aside (b := w2.heap.size) (o := 4) (u := .slice av (Pf.len + 1) cv) (by omega))))
            clear hob hlo7 HM8 K7 K9 K8 R8 F8 h4 hg hk HG8 p0 p1 p2 p3 p4 q0 q1 q2 q3 q4 HS HRd HKd HFd HGd HMd hZd HKs m0 m1 m2 m3 m4 n0 n1 n2 n3 n4 ba HM7 HM9 hZ9 HG9 HG7 hltG ou hsm hR7 hK7 o0 o1 o2 o3 o4 y0 y1 y2 y3 y4
            go_wp2_with fail
            go_roundw
            case rel => exact ⟨j + 1, by omega, by first | rfl | go_num, HR9, HK9, HF9, HZ9, Lib.hid ⟨_, _, _, HX9.out.1, HX9.out.2.1, HX9.out.2.2⟩⟩
            case measure => simp [intOf]; omega
        · obtain rfl : j = n := by omega
          obtain ⟨Pf, C, vo, hKs, hG, hMd⟩ := HM.out
          have hjp : j * pk ≤ 3 * pk := Nat.mul_le_mul_right pk (by omega)
          obtain ⟨avo, cvo, rfl⟩ := row_shape hMd.row
          obtain ⟨o0, o1, o2, o3, o4⟩ := hG.cells
          obtain ⟨t0, t1, t2, t3, t4⟩ := HF.out.cells
          obtain ⟨y0, y1, y2, y3, y4⟩ := HF.out.free
          have HU := Lib.hid (HF.out.set5 (.int .i64 kk) (.int .i64 0) (.int .i64 0) (.int .i64 0) (.slice avo Pf.len cvo)).cells
          have K4 := Lib.hid (HK.out.set5 w.heap.size (Nat.le_refl _) hrb (.int .i64 kk) (.int .i64 0) (.int .i64 0) (.int .i64 0) (.slice avo Pf.len cvo))
          have R4 := Lib.hid ((HR.out.mono (show P + 3 + j * pk ≤ P + (4 + 3 * pk) by omega)).set5 w.heap.size hrb (.int .i64 kk) (.int .i64 0) (.int .i64 0) (.int .i64 0) (.slice avo Pf.len cvo))
          have O4 := Lib.hid ((hMd.own.set5 (b := w.heap.size) (by omega) (.int .i64 kk) (.int .i64 0) (.int .i64 0) (.int .i64 0) (.slice avo Pf.len cvo)).mono (lo' := w.heap.size) (by omega) (Nat.le_of_eq (set5_size ..).symm) (Nat.le_refl _))
          have M4 := Lib.hid (hMd.set5 (b := w.heap.size) (by omega) (.int .i64 kk) (.int .i64 0) (.int .i64 0) (.int .i64 0) (.slice avo Pf.len cvo))
          have hSm := Lib.hid (hKs.small har)
          have hMs := Lib.hid hMd.row.1
          clear hKs hG hMd HM HR HK HF hjp
          go_wp2_with fail
          unfold set5 at HU
          obtain ⟨g0, g1, g2, g3, g4⟩ := HU.out
          exact bodyPost_ret (v := .agg #[.int .i64 kk, .int .i64 0, .int .i64 0, .int .i64 0, .slice avo Pf.len cvo]) (by simp [results, Try.results45, go_sem, g0, g1, g2, g3, g4]) rfl
            ⟨kk, 0, 0, 0, _, Pf, rfl, O4.out, hSm.out, R4.out, K4.out, _, _, (by omega), (Nat.le_trans hZ.out (Nat.le_of_eq (set5_size wr w.heap.size (.int .i64 kk) (.int .i64 0) (.int .i64 0) (.int .i64 0) (.slice avo Pf.len cvo)).symm)), M4.out⟩
theorem rfOk_all : ∀ d : Nat, d ≤ 6 → RfOk d := by
  intro d
  induction d with
  | zero => intro _ rb P w hP hR; exact rf_leaf rb P w hP hR
  | succ d ih => intro h; exact rf_step d (by omega) (ih (by omega))
end Go.Proofs.Ytdloeiaaokhniaa

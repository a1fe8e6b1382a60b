/- Any blocks, drawn; what the law of ResolvePages draws; that law's walk. -/
import Derived.Test.YtgppljadkpoklaaDoorDrawBlk
import Derived.Test.YtgppljadkpoklaaDoorRefRes
import Derived.Test.YtgppljadkpoklaaDoorEqualInts
namespace Go.Proofs.YtgppljadkpoklaaDoor
open Go.RowKit
set_option maxHeartbeats 2000000
set_option maxRecDepth 100000

theorem blkC_set_ex : ∀ (B : List Blk) (i : Nat) (z : Int), i < B.length * 3 → ∃ B' : List Blk, B'.length = B.length ∧ blkC B' = (blkC B).set i (.int .i64 z)
  | [], i, z, h => by simp at h
  | (a, b, c) :: r, 0, z, _ => ⟨(z, b, c) :: r, by simp, by simp [blkC]⟩
  | (a, b, c) :: r, 1, z, _ => ⟨(a, z, c) :: r, by simp, by simp [blkC]⟩
  | (a, b, c) :: r, 2, z, _ => ⟨(a, b, z) :: r, by simp, by simp [blkC]⟩
  | (a, b, c) :: r, i + 3, z, h => by
    obtain ⟨B', h1, h2⟩ := blkC_set_ex r i z (by simp at h; omega)
    exact ⟨(a, b, c) :: B', by simp [h1], by simp [blkC, h2]⟩
theorem blk_store {lo g n cap i : Nat} {w : World} {B : List Blk} (h : w.ownsRow lo 31 3 (.slice (some ⟨g, 0, none⟩) n cap) n (blkC B)) (hn : B.length = n) (hi : i < n * 3) (z : Int) :
    ∃ B' : List Blk, B'.length = n ∧ (w.setCell ⟨g, i, none⟩ (.int .i64 z)).ownsRow lo 31 3 (.slice (some ⟨g, 0, none⟩) n cap) n (blkC B') ∧ w.grownBy (w.setCell ⟨g, i, none⟩ (.int .i64 z)) (some g) := by
  obtain ⟨B', h1, h2⟩ := blkC_set_ex B i z (by omega)
  have h0 := h.stored i (.int .i64 z)
  exact ⟨B', by omega, by rw [h2]; exact h0.1, h0.2⟩

theorem anyBlocks_any (rb P : Nat) (w : World) (hP : P ≤ 800000) (hR : Rdr w rb P) :
    Calls Tryd.prog 30 #[.pointer (some ⟨rb, 0, none⟩)] w (DrewB rb (P + 52) 8 w) := by
  have hrb := hR.lies
  go_enter Tryd.func30, Tryd.ntmps30
  go_wp2_with fail
  refine (randomBlocks_any rb P _ hP hR).mono ?_
  rintro e w2 ⟨v, B, hB, rfl, o2, hR2, hK2⟩
  have HO := Lib.hid o2
  have HR2 := Lib.hid hR2
  have HK2 := Lib.hid hK2
  clear hR hR2 hK2
  by_cases hn : 1 < B.length
  · rcases (OwnC.row o2).2 with ⟨rfl, h0⟩ | ⟨g, cp, cur, rfl, hg1, hg2, hg3, hg4, _⟩
    · omega
    · clear hg2 o2
      have hd : decide ((1 : Int) < (B.length : Int)) = true := decide_eq_true (by omega)
      have hd2 : decide (1 < B.length) = true := decide_eq_true hn
      go_wp2_with fail
      refine (pick_pos rb (P + 50) 16 _ (by omega) (by omega) HR2.out).mono ?_
      rintro e w3 ⟨x, hx, rfl, hR3, hK3⟩
      have HO3 : Hid (w3.ownsRow w.heap.size 31 3 (.slice (some ⟨g, 0, none⟩) B.length cp) B.length (blkC B)) := Lib.hid (ownsC_keeps (OwnC.row HO.out) hK3 hrb)
      have HK3 := Lib.hid (HK2.out.trans hK3)
      have HR3 := Lib.hid hR3
      clear hK3 hR3 HO HK2 HR2 hd hd2
      have HL := Lib.hid (blkC_len B)
      by_cases hx0 : x = 0
      · subst hx0
        go_wp2_with fail
        refine (one_lit rb (P + 50 + 1) [0, 41, 40] w3 _ (by simp) (by simp) (by omega) HR3.out).mono ?_
        rintro e w4 ⟨z, hz, rfl, hR4, hK4⟩
        have hown := ownsC_keeps HO3.out hK4 hrb
        have HK4 := Lib.hid (HK3.out.trans hK4)
        have HR4 := Lib.hid hR4
        obtain ⟨o0, ho0⟩ : ∃ u, (blkC B)[0]? = some u := ⟨_, List.getElem?_eq_getElem (by rw [HL.out]; omega)⟩
        have c0 : w4.cell? ⟨g, 0, none⟩ = some o0 := (hown.cellAt 0 (by omega)).trans ho0
        have f0 : w4.frozen? ⟨g, 0, none⟩ = false := hown.frozenAt 0
        have HS := Lib.hid (blk_store (i := 0) hown rfl (by omega) z)
        clear hz hK4 hR4 hown HK3 HR3 HO3 ho0 HL
        go_wp2_with fail
        go_ret
        obtain ⟨B', h1, h2, h3⟩ := HS.out
        have hR5 := (HR4.out.grown h3 (fun j hj => by injection hj with hj; omega)).1
        refine ⟨_, B', by omega, rfl, ?_, hR5.mono (by omega), HK4.out.grown h3 hrb (fun j hj => by injection hj with hj; omega)⟩
        unfold OwnB
        rw [h1]
        exact ownC_of h2
      · have hxe : ((x : Int) == 0) = false := by simpa using hx0
        by_cases hx1 : x = 1
        · subst hx1
          have hown := HO3.out
          obtain ⟨o0, ho0⟩ : ∃ u, (blkC B)[1]? = some u := ⟨_, List.getElem?_eq_getElem (by rw [HL.out]; omega)⟩
          obtain ⟨o1, ho1⟩ : ∃ u, (blkC B)[4]? = some u := ⟨_, List.getElem?_eq_getElem (by rw [HL.out]; omega)⟩
          have c0 : w3.cell? ⟨g, 1, none⟩ = some o0 := (hown.cellAt 1 (by omega)).trans ho0
          have f0 : w3.frozen? ⟨g, 1, none⟩ = false := hown.frozenAt 1
          have c1 : w3.cell? ⟨g, 4, none⟩ = some o1 := (hown.cellAt 4 (by omega)).trans ho1
          have f1 : w3.frozen? ⟨g, 4, none⟩ = false := hown.frozenAt 4
          have HS := Lib.hid (blk_store (i := 1) hown rfl (by omega) 3)
          clear hown ho0 ho1 HL
          go_wp2_with fail
          go_ret
          obtain ⟨B', h1, h2, h3⟩ := HS.out
          obtain ⟨B2, k1, k2, k3⟩ := blk_store (i := 4) h2 h1 (by omega) 3
          have h4 := grownBy_trans h3 k3
          have hR5 := (HR3.out.grown h4 (fun j hj => by injection hj with hj; omega)).1
          refine ⟨_, B2, by omega, rfl, ?_, hR5.mono (by omega), HK3.out.grown h4 hrb (fun j hj => by injection hj with hj; omega)⟩
          unfold OwnB
          rw [k1]
          exact ownC_of k2
        · have hxe1 : ((x : Int) == 1) = false := by rw [beq_eq_false_iff_ne]; omega
          by_cases hx2 : x = 2
          · subst hx2
            go_wp2_with fail
            refine (one_lit rb (P + 50 + 1) [-1, 10] w3 _ (by simp) (by simp) (by omega) HR3.out).mono ?_
            rintro e w4 ⟨z, hz, rfl, hR4, hK4⟩
            have hown := ownsC_keeps HO3.out hK4 hrb
            have HK4 := Lib.hid (HK3.out.trans hK4)
            have HR4 := Lib.hid hR4
            obtain ⟨o0, ho0⟩ : ∃ u, (blkC B)[2]? = some u := ⟨_, List.getElem?_eq_getElem (by rw [HL.out]; omega)⟩
            have c0 : w4.cell? ⟨g, 2, none⟩ = some o0 := (hown.cellAt 2 (by omega)).trans ho0
            have f0 : w4.frozen? ⟨g, 2, none⟩ = false := hown.frozenAt 2
            have HS := Lib.hid (blk_store (i := 2) hown rfl (by omega) z)
            clear hz hK4 hR4 hown HK3 HR3 HO3 ho0 HL
            go_wp2_with fail
            go_ret
            obtain ⟨B', h1, h2, h3⟩ := HS.out
            have hR5 := (HR4.out.grown h3 (fun j hj => by injection hj with hj; omega)).1
            refine ⟨_, B', by omega, rfl, ?_, hR5.mono (by omega), HK4.out.grown h3 hrb (fun j hj => by injection hj with hj; omega)⟩
            unfold OwnB
            rw [h1]
            exact ownC_of h2
          · have hxe2 : ((x : Int) == 2) = false := by rw [beq_eq_false_iff_ne]; omega
            clear HL
            go_wp2_with fail
            go_ret
            exact ⟨_, B, hB, rfl, ownC_of HO3.out, HR3.out.mono (by omega), HK3.out⟩
  · have hd : decide ((1 : Int) < (B.length : Int)) = false := decide_eq_false (by omega)
    have hd2 : decide (1 < B.length) = false := decide_eq_false hn
    obtain ⟨a, c, rfl⟩ := OwnC.slice o2
    clear o2
    go_wp2_with fail
    go_ret
    exact ⟨_, B, hB, rfl, HO.out, HR2.out.mono (by omega), HK2.out⟩

def DrewBI (w : World) (e : Ending) (w' : World) : Prop := ∃ (v : Value) (B : List Blk) (z : Int), B.length ≤ 8 ∧ e = .returned (.tuple #[v, .int .i64 z]) ∧ OwnB w.heap.size w'.heap.size w' v B ∧ Below w.heap.size w w'
theorem drawResolvePages_any (a : Option Addr) (len cap : Nat) (zs : List Int) (w : World) (h : RowIn .u8 w a len cap zs) :
    Calls Tryd.prog 27 #[.slice a len cap] w (DrewBI w) := by
  have HR := Lib.hid h; clear h
  go_enter Tryd.func27, Tryd.ntmps27
  go_wp2_with fail
  refine (newReader_any a len cap zs _ HR.out).mono ?_
  rintro e w1 ⟨rfl, hR, hb⟩
  have hlt : w.heap.size < w1.heap.size := hR.lies
  have HB := Lib.hid hb
  clear hb
  go_wp2_with fail
  refine (anyBlocks_any w.heap.size 0 _ (by omega) hR).mono ?_
  rintro e w2 ⟨v, B, hB, rfl, o2, hR2, hK2⟩
  have HB2 := Lib.hid (HB.out.trans hK2.below)
  have HO2 := Lib.hid o2
  clear o2 hK2 hR HB
  go_wp2_with fail
  refine (one_lit w.heap.size (0 + 52) [1, 2, 3, 10, 40, 0, 41] w2 _ (by simp) (by simp) (by omega) hR2).mono ?_
  rintro e w3 ⟨z, hz, rfl, hR3, hK3⟩
  have HB3 := Lib.hid (HB2.out.trans hK3.below)
  have HO3 : Hid (OwnB w.heap.size w3.heap.size w3 v B) := Lib.hid (OwnC.mono (ownC_keeps HO2.out hK3 hlt) (Nat.le_of_lt hlt) hK3.below.size (Nat.le_refl _))
  clear hK3 hR3 HO2 HB2 hz
  go_wp2_with fail
  go_ret2
  exact ⟨v, B, z, hB, rfl, HO3.out, HB3.out⟩
end Go.Proofs.YtgppljadkpoklaaDoor

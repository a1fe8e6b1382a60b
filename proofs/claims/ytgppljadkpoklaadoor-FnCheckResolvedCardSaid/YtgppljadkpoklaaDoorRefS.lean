/- The pages of blocks, by the reference. -/
import Derived.Test.YtgppljadkpoklaaDoorRef
namespace Go.Proofs.YtgppljadkpoklaaDoor
open Go.RowKit
set_option maxHeartbeats 2000000
set_option maxRecDepth 100000

theorem spagesOf_any (v u : Value) (B : List Blk) (ln : Nat) (K : List Int) (w : World) (h : SlB w v B) (hu : SlI w u K) (hB : okB B = true) (hl1 : 1 ≤ ln) (hl2 : ln ≤ 40) (hK : okK K = true) :
    Calls Tryd.prog 40 #[v, .int .i64 ln, u] w (GaveI (pagesF B ln K B.length) w) := by
  have HW := Lib.hid h
  have HU := Lib.hid hu
  obtain ⟨a, cap, rfl, h1, h2, _⟩ := h
  have hK10 := (okK_at hK).1
  obtain ⟨ak, ck, rfl⟩ : ∃ a c, u = .slice a 10 c := by obtain ⟨a, c, e, _⟩ := hu; rw [hK10] at e; exact ⟨a, c, e⟩
  have hck : 10 ≤ ck ∧ ck ≤ maxLen := by obtain ⟨_, _, e, h1, h2, _⟩ := hu; injection e with _ _ e; subst e; rw [hK10] at h1; exact ⟨h1, h2⟩
  unfold maxLen at h2 hck
  have hBl := (okB_at hB).1
  have HC : Hid (∀ k, k < B.length → ∃ b off, a = some ⟨b, off, none⟩ ∧ b < w.heap.size ∧ ∀ i, i < B.length → w.cell? ⟨b, off + i * 3, none⟩ = some (.int .i64 (bl B i)) ∧ w.cell? ⟨b, off + i * 3 + 1, none⟩ = some (.int .i64 (bb B i)) ∧ w.cell? ⟨b, off + i * 3 + 2, none⟩ = some (.int .i64 (br B i))) := fun k hk => (HW.out.cells (by omega)).2
  have HCk := Lib.hid (show ∃ b off, ak = some ⟨b, off, none⟩ ∧ b < w.heap.size ∧ ∀ i, i < 10 → w.cell? ⟨b, off + i, none⟩ = some (.int .i64 (K.getD i 0)) from HU.out.cells (by omega))
  have HOk : Hid (∀ k, k < B.length → (1 ≤ bl B k ∧ bl B k ≤ 40) ∧ (0 ≤ br B k ∧ br B k ≤ 9)) := Lib.hid (fun k hk => by have := okB1_at ((okB_at hB).2 k hk); exact ⟨this.1, this.2.2.1⟩)
  have HAt : Hid (∀ k, k ≤ B.length → atF B K k ≤ 880) := Lib.hid (fun k hk => by have := atF_bd hB hK k hk; omega)
  have HSt : Hid (∀ k, atF B K (k + 1) = atF B K k + (bl B k).toNat + (if 0 < br B k then ndg (K.getD (br B k).toNat 0).toNat - 1 else 0)) := Lib.hid (fun k => rfl)
  have HPg := Lib.hid (pagesF_succ B ln K)
  have HPl := Lib.hid (pagesF_len B ln K)
  have HKb := Lib.hid (okK_getD hK)
  have HO0 : Hid ((w.alloc (.cells #[] 3)).ownsRow w.heap.size 3 1 (.slice (some ⟨w.heap.size, 0, none⟩) 0 0) 0 ((pagesF B ln K 0).map (Value.int .i64))) := World.ownsRow_lit w #[] 0 (Nat.le_refl _) (Nat.zero_le _) rfl
  have HB0 : Hid (Below w.heap.size w (w.alloc (.cells #[] 3))) := Lib.hid ((Below.refl _ _).alloc (Nat.le_refl _) _)
  have hln0 : ((ln : Int) == 0) = false := by rw [beq_eq_false_iff_ne]; omega
  clear hu HW HU hB hK hK10
  generalize B.length = n at *
  go_enter Tryd.func40, Tryd.ntmps40
  go_wp2_with fail
  go_loopw [7, 8, 9] (fun vo s i wr => ∃ (k m : Nat), k ≤ n ∧ i = .int .i64 k ∧ s = .int .i64 m ∧ m ≤ 880 ∧ Hid (atF B K k = m) ∧ Hid (Below w.heap.size w wr) ∧ Hid (wr.ownsRow w.heap.size 3 1 vo k ((pagesF B ln K k).map (Value.int .i64)))) (fun _ _ i _ => n - (intOf i).toNat)
  case atStart => exact ⟨0, 0, by omega, rfl, rfl, by omega, rfl, HB0, HO0⟩
  case round =>
    clear HO0 HB0
    obtain ⟨k, m, hk, rfl, rfl, hm, HM, HB, HO⟩ := hrel
    by_cases hlt : k < n
    · obtain ⟨b, off, rfl, hb, hc⟩ := HC.out k hlt
      obtain ⟨bk, ok, rfl, hbk, hck2⟩ := HCk.out
      have c0 := (HB.out.cell (p := ⟨b, off + k * 3, none⟩) hb).trans (hc k hlt).1
      have c1 := (HB.out.cell (p := ⟨b, off + k * 3 + 1, none⟩) hb).trans (hc k hlt).2.1
      have c2 := (HB.out.cell (p := ⟨b, off + k * 3 + 2, none⟩) hb).trans (hc k hlt).2.2
      have hxy := HOk.out k hlt
      have HS := Lib.hid (HSt.out k)
      rw [HM.out] at HS
      have HP := Lib.hid (HPg.out k)
      rw [HM.out] at HP
      have hat := HAt.out (k + 1) (by omega)
      obtain ⟨x, hx⟩ := Int.eq_ofNat_of_zero_le (show 0 ≤ bl B k by omega)
      obtain ⟨z, hz⟩ := Int.eq_ofNat_of_zero_le (show 0 ≤ br B k by omega)
      rw [hx] at c0 HS hxy
      rw [hz] at c2 HS hxy
      rw [Int.toNat_natCast, Int.toNat_natCast] at HS
      clear hx hz hc
      generalize bb B k = y at *
      have hbs := HB.out.size
      have HDv : Hid ((m : Int) / (ln : Int) + 1 = ((m / ln + 1 : Nat) : Int)) := Lib.hid (by simp)
      have hz9 := hxy.2.2
      have hdv : 0 ≤ (m : Int) / (ln : Int) ∧ (m : Int) / (ln : Int) ≤ 880 := by
        have e : (m : Int) / (ln : Int) = ((m / ln : Nat) : Int) := by simp
        have hq : m / ln ≤ m := Nat.div_le_self _ _
        rw [e]
        generalize m / ln = qq at *
        omega
      go_wp2_with (at_builtin; go_must (refine wpList_append_int rfl _ _ rfl w.heap.size _ k (pagesF B ln K k) ((m : Int) / (ln : Int) + 1) HO.out rfl rfl (by omega) hbs ?_))
      intro v' w4 g1 g2
      have HO4 : Hid (w4.ownsRow w.heap.size 3 1 v' (k + 1) ((pagesF B ln K (k + 1)).map (Value.int .i64))) := Lib.hid (by rw [HP.out, ← HDv.out]; simpa using g1)
      have HB4 : Hid (Below w.heap.size w w4) := Lib.hid (HB.out.grown g2 hbs (fun j hj => (HO.out.lt j hj).1))
      have f0 := (HB4.out.cell (p := ⟨b, off + k * 3, none⟩) hb).trans ((HB.out.cell (p := ⟨b, off + k * 3, none⟩) hb).symm.trans c0)
      have f2 := (HB4.out.cell (p := ⟨b, off + k * 3 + 2, none⟩) hb).trans ((HB.out.cell (p := ⟨b, off + k * 3 + 2, none⟩) hb).symm.trans c2)
      have hB4 := HB4.out.size
      have hk4 : ∀ i, i < 10 → w4.cell? ⟨bk, ok + i, none⟩ = some (.int .i64 (K.getD i 0)) := fun i hi => (HB4.out.cell (p := ⟨bk, ok + i, none⟩) hbk).trans (hck2 i hi)
      have HK4 := Lib.hid hk4
      clear hk4 hck2 g1 g2 HB HO HP HDv c0 c1 c2 hdv
      by_cases hz0 : 0 < z
      · have hdz : decide (0 < z) = true := decide_eq_true hz0
        have hdz2 : decide ((0 : Int) < (z : Int)) = true := decide_eq_true (by omega)
        have ck4 := HK4.out z (by omega)
        have hkb := HKb.out z
        rw [if_pos (by omega : (0 : Int) < (z : Int))] at HS
        obtain ⟨kv, hkv⟩ := Int.eq_ofNat_of_zero_le hkb.1
        rw [hkv] at ck4 HS hkb
        rw [Int.toNat_natCast] at HS
        have hnd := ndg_top (n := kv) (by omega)
        have hnp := ndg_pos kv
        have HS2 : Hid (atF B K (k + 1) = m + x + (ndg kv - 1)) := Lib.hid HS.out
        rw [HS2.out] at hat
        clear HS hkv
        have hz10 : z < 10 := by omega
        go_wp2_with fail
        refine (sdigits_any kv (by omega) _).mono ?_
        rintro e w5 ⟨rfl, b5⟩
        have HB5 := Lib.hid (HB4.out.trans (b5.mono hB4))
        have HO5 := Lib.hid ((ownC_of HO4.out).below b5).row
        have HF : Hid ((m : Int) + (x : Int) + (ndg kv : Int) - 1 = ((m + x + (ndg kv - 1) : Nat) : Int)) := Lib.hid (by omega)
        clear b5 HO4 HB4
        go_wp2_with fail
        go_roundw
        case rel => exact ⟨k + 1, m + x + (ndg kv - 1), by omega, by go_num, by rw [HF.out], hat, HS2, HB5, HO5⟩
        case measure => simp [intOf]; omega
      · have hdz : decide (0 < z) = false := decide_eq_false hz0
        have hdz2 : decide ((0 : Int) < (z : Int)) = false := decide_eq_false (by omega)
        rw [if_neg (by omega : ¬ (0 : Int) < (z : Int))] at HS
        have HS2 : Hid (atF B K (k + 1) = m + x) := Lib.hid HS.out
        rw [HS2.out] at hat
        clear HS
        go_wp2_with fail
        go_roundw
        case rel => exact ⟨k + 1, m + x, by omega, by go_num, by go_num, hat, HS2, HB4, HO4⟩
        case measure => simp [intOf]; omega
    · obtain rfl : k = n := by omega
      have HOx := Lib.hid (own_rowD HO.out (HPl.out k))
      go_wp2_with fail
      go_ret
      exact ⟨_, rfl, HOx.out, HB.out⟩
end Go.Proofs.YtgppljadkpoklaaDoor

/- The delays of figures, by the program and by the reference. -/
import Derived.Test.YtfiogefigjnaiaaFigCheckS
namespace Go.Proofs.Ytfiogefigjnaiaa
open Go.RowKit
set_option maxHeartbeats 2000000
set_option maxRecDepth 100000

theorem check_facts {F : List (Int × Int)} {S P : List Int} (h : checkS F S P = true) : okF F = true ∧ okS S = true ∧ P.length = F.length ∧ ∃ l, chS F S P F.length = some l := by
  unfold checkS at h
  rw [Bool.and_eq_true, Bool.and_eq_true, Bool.and_eq_true, decide_eq_true_eq, Option.isSome_iff_exists] at h
  exact ⟨h.1.1.1, h.1.1.2, h.1.2, h.2⟩
theorem delay_facts {F : List (Int × Int)} {S P : List Int} (h : checkS F S P = true) : F.length ≤ 10 ∧ P.length = F.length ∧ (∀ k, k < F.length → 0 ≤ P.getD k 0 ∧ P.getD k 0 ≤ 11 ∧ 0 ≤ fp F k ∧ fp F k ≤ P.getD k 0) ∧ ∀ k, k ≤ F.length → 0 ≤ dl F P k ∧ dl F P k ≤ 110 := by
  obtain ⟨h1, h2, h3, l, h4⟩ := check_facts h
  have hl := (okF_at h1).1
  have hb := dl_bd h1 h2 F.length (Nat.le_refl _) l h4
  refine ⟨hl, h3, fun k hk => ?_, fun k hk => ?_⟩
  · have a := hb.1 k hk
    have b := okF1_iff.1 ((okF_at h1).2 k hk)
    omega
  · cases hc : chS F S P k with
    | none => rw [chS_none F S P k hc F.length hk] at h4; cases h4
    | some l' => have := (dl_bd h1 h2 k hk l' hc).2; omega
theorem delayS_no {F : List (Int × Int)} {S P : List Int} (h : checkS F S P = false) : delayS F S P = -1 := by unfold delayS; rw [h]; rfl
theorem delayS_yes {F : List (Int × Int)} {S P : List Int} (h : checkS F S P = true) : delayS F S P = dl F P F.length := by unfold delayS; rw [h]; rfl

theorem totalDelay_any (v u t : Value) (F : List (Int × Int)) (S P : List Int) (w : World) (h : SlF w v F) (hu : SlI w u S) (ht : SlI w t P) :
    Calls Try.prog 12 #[v, u, t] w fun e w' => e = .returned (.int .i64 (delayS F S P)) ∧ Below w.heap.size w w' := by
  have HF := Lib.hid h
  have HT := Lib.hid ht
  obtain ⟨af, cf, rfl⟩ : ∃ a c, v = .slice a F.length c := by obtain ⟨a, c, e, _⟩ := HF.out; exact ⟨a, c, e⟩
  obtain ⟨at', ct, rfl⟩ : ∃ a c, t = .slice a P.length c := by obtain ⟨a, c, e, _⟩ := HT.out; exact ⟨a, c, e⟩
  have hfc : F.length ≤ cf ∧ cf ≤ maxLen := by obtain ⟨_, _, e, h1, h2, _⟩ := HF.out; injection e with _ _ e; subst e; exact ⟨h1, h2⟩
  have htc : P.length ≤ ct ∧ ct ≤ maxLen := by obtain ⟨_, _, e, h1, h2, _⟩ := HT.out; injection e with _ _ e; subst e; exact ⟨h1, h2⟩
  unfold maxLen at hfc htc
  have HN := Lib.hid (checkFigures_any _ u _ F S P w h hu ht)
  clear h hu ht
  cases hc : checkS F S P
  · have HE := Lib.hid (delayS_no hc)
    rw [hc] at HN
    go_enter Try.func12, Try.ntmps12
    go_wp2_with fail
    refine HN.out.mono ?_
    rintro e w1 ⟨rfl, b1⟩
    have HB := Lib.hid b1
    clear b1 HN
    go_wp2_with fail
    go_ret
    rw [HE.out]
    exact ⟨rfl, HB.out⟩
  · have HE := Lib.hid (delayS_yes hc)
    rw [hc] at HN
    obtain ⟨hl, hlen, hpb, hdb⟩ := delay_facts hc
    have HPb := Lib.hid hpb
    have HDb := Lib.hid hdb
    have HC : Hid (∀ k, k < F.length → ∃ b off, af = some ⟨b, off, none⟩ ∧ b < w.heap.size ∧ ∀ i, i < F.length → w.cell? ⟨b, off + i * 2, none⟩ = some (.int .i64 (fh F i)) ∧ w.cell? ⟨b, off + i * 2 + 1, none⟩ = some (.int .i64 (fp F i))) := fun k hk => (HF.out.cells (by omega)).2
    have HT2 : Hid (∀ k, k < F.length → ∃ b off, at' = some ⟨b, off, none⟩ ∧ b < w.heap.size ∧ ∀ j, j < F.length → w.cell? ⟨b, off + j, none⟩ = some (.int .i64 (P.getD j 0))) := fun k hk => by rw [← hlen]; exact HT.out.cells (by omega)
    have HSt : Hid (∀ k, dl F P (k + 1) = dl F P k + (P.getD k 0 - fp F k)) := fun k => rfl
    have H0 : Hid (dl F P 0 = 0) := rfl
    rw [hlen] at htc HN ⊢
    clear hpb hdb hc HF HT hlen
    generalize F.length = n at *
    go_enter Try.func12, Try.ntmps12
    go_wp2_with fail
    refine HN.out.mono ?_
    rintro e w1 ⟨rfl, b1⟩
    have HB := Lib.hid b1
    clear b1 HN
    go_wp2_with fail
    go_loopw [7, 17] (fun s i wr => ∃ (k : Nat) (d : Int), k ≤ n ∧ i = .int .i64 k ∧ s = .int .i64 d ∧ 0 ≤ d ∧ d ≤ 110 ∧ Hid (dl F P k = d) ∧ Hid (Below w.heap.size w wr)) (fun _ i _ => n - (intOf i).toNat)
    case atStart => exact ⟨0, 0, by omega, rfl, rfl, by omega, by omega, H0, HB⟩
    case round =>
      obtain ⟨k, d, hk, rfl, rfl, d0, d1, HD, HB2⟩ := hrel
      by_cases hlt : k < n
      · obtain ⟨b, off, rfl, hb, hc⟩ := HC.out k hlt
        obtain ⟨bt, offt, rfl, hbt, hct⟩ := HT2.out k hlt
        have c0 := (HB2.out.cell (p := ⟨b, off + k * 2, none⟩) hb).trans (hc k hlt).1
        have c1 := (HB2.out.cell (p := ⟨b, off + k * 2 + 1, none⟩) hb).trans (hc k hlt).2
        have c2 := (HB2.out.cell (p := ⟨bt, offt + k, none⟩) hbt).trans (hct k hlt)
        have hbw : b < wr.heap.size := Nat.lt_of_lt_of_le hb HB2.out.size
        have hbtw : bt < wr.heap.size := Nat.lt_of_lt_of_le hbt HB2.out.size
        have hp := HPb.out k hlt
        have HS := Lib.hid (HSt.out k)
        have hdn := HDb.out (k + 1) (by omega)
        rw [HS.out] at hdn
        rw [HD.out] at HS hdn
        clear hc hct
        generalize fh F k = x at *
        generalize fp F k = y at *
        generalize P.getD k 0 = p at *
        have hbel : Below wr.heap.size wr (wr.alloc (.cells #[.int .i64 x, .int .i64 y] 46)) := (Below.refl _ _).alloc (Nat.le_refl _) _
        have HB3 := Lib.hid (HB2.out.trans (hbel.mono HB2.out.size))
        have hf1 : (wr.alloc (.cells #[.int .i64 x, .int .i64 y] 46)).cell? ⟨wr.heap.size, 1, none⟩ = some (.int .i64 y) := by simp [go_sem]
        have hf2 : (wr.alloc (.cells #[.int .i64 x, .int .i64 y] 46)).cell? ⟨bt, offt + k, none⟩ = some (.int .i64 p) := (hbel.cell (p := ⟨bt, offt + k, none⟩) hbtw).trans c2
        have HF1 := Lib.hid hf1
        have HF2 := Lib.hid hf2
        have s1 : IntKind.i64.wrap (p - y) = p - y := IntWalk.i64_in _ (by omega)
        have s2 : IntKind.i64.wrap (d + (p - y)) = d + (p - y) := IntWalk.i64_in _ (by omega)
        clear hbel hf1 hf2 HB2
        go_wp2_with fail
        generalize wr.alloc (.cells #[.int .i64 x, .int .i64 y] 46) = W1 at *
        have f1 := HF1.out
        have f2 := HF2.out
        generalize wr.heap.size = bf at *
        clear c0 c1 c2 HF1 HF2
        go_quiet (fail)
        clear s1 s2
        go_wp2_with fail
        go_roundw
        case rel => exact ⟨k + 1, d + (p - y), by omega, by go_num, rfl, hdn.1, hdn.2, HS, below_drewN HB3.out nq⟩
        case measure => simp [intOf]; omega
      · obtain rfl : k = n := by omega
        go_wp2_with fail
        go_ret
        rw [HE.out, HD.out]
        exact ⟨rfl, HB2.out⟩

theorem stotalDelay_any (lo hi : Nat) (v u t : Value) (F : List (Int × Int)) (S P : List Int) (w : World) (h : SlF w v F) (hu : OwnI lo hi w u S) (ht : SlI w t P) :
    Calls Try.prog 9 #[v, u, t] w fun e w' => e = .returned (.int .i64 (delayS F S P)) ∧ Below w.heap.size w w' := by
  have HF := Lib.hid h
  have HT := Lib.hid ht
  obtain ⟨af, cf, rfl⟩ : ∃ a c, v = .slice a F.length c := by obtain ⟨a, c, e, _⟩ := HF.out; exact ⟨a, c, e⟩
  obtain ⟨at', ct, rfl⟩ : ∃ a c, t = .slice a P.length c := by obtain ⟨a, c, e, _⟩ := HT.out; exact ⟨a, c, e⟩
  have hfc : F.length ≤ cf ∧ cf ≤ maxLen := by obtain ⟨_, _, e, h1, h2, _⟩ := HF.out; injection e with _ _ e; subst e; exact ⟨h1, h2⟩
  have htc : P.length ≤ ct ∧ ct ≤ maxLen := by obtain ⟨_, _, e, h1, h2, _⟩ := HT.out; injection e with _ _ e; subst e; exact ⟨h1, h2⟩
  unfold maxLen at hfc htc
  have HN := Lib.hid (scheckFigures_any lo hi _ u _ F S P w h hu ht)
  clear h hu ht
  cases hc : checkS F S P
  · have HE := Lib.hid (delayS_no hc)
    rw [hc] at HN
    go_enter Try.func9, Try.ntmps9
    go_wp2_with fail
    refine HN.out.mono ?_
    rintro e w1 ⟨rfl, b1⟩
    have HB := Lib.hid b1
    clear b1 HN
    go_wp2_with fail
    go_ret
    rw [HE.out]
    exact ⟨rfl, HB.out⟩
  · have HE := Lib.hid (delayS_yes hc)
    rw [hc] at HN
    obtain ⟨hl, hlen, hpb, hdb⟩ := delay_facts hc
    have HPb := Lib.hid hpb
    have HDb := Lib.hid hdb
    have HC : Hid (∀ k, k < F.length → ∃ b off, af = some ⟨b, off, none⟩ ∧ b < w.heap.size ∧ ∀ i, i < F.length → w.cell? ⟨b, off + i * 2, none⟩ = some (.int .i64 (fh F i)) ∧ w.cell? ⟨b, off + i * 2 + 1, none⟩ = some (.int .i64 (fp F i))) := fun k hk => (HF.out.cells (by omega)).2
    have HT2 : Hid (∀ k, k < F.length → ∃ b off, at' = some ⟨b, off, none⟩ ∧ b < w.heap.size ∧ ∀ j, j < F.length → w.cell? ⟨b, off + j, none⟩ = some (.int .i64 (P.getD j 0))) := fun k hk => by rw [← hlen]; exact HT.out.cells (by omega)
    have HSt : Hid (∀ k, dl F P (k + 1) = dl F P k + (P.getD k 0 - fp F k)) := fun k => rfl
    have H0 : Hid (dl F P 0 = 0) := rfl
    rw [hlen] at htc HN ⊢
    clear hpb hdb hc HF HT hlen
    generalize F.length = n at *
    go_enter Try.func9, Try.ntmps9
    go_wp2_with fail
    refine HN.out.mono ?_
    rintro e w1 ⟨rfl, b1⟩
    have HB := Lib.hid b1
    clear b1 HN
    go_wp2_with fail
    go_loopw [7, 8] (fun s i wr => ∃ (k : Nat) (d : Int), k ≤ n ∧ i = .int .i64 k ∧ s = .int .i64 d ∧ 0 ≤ d ∧ d ≤ 110 ∧ Hid (dl F P k = d) ∧ Hid (Below w.heap.size w wr)) (fun _ i _ => n - (intOf i).toNat)
    case atStart => exact ⟨0, 0, by omega, rfl, rfl, by omega, by omega, H0, HB⟩
    case round =>
      obtain ⟨k, d, hk, rfl, rfl, d0, d1, HD, HB2⟩ := hrel
      by_cases hlt : k < n
      · obtain ⟨b, off, rfl, hb, hc⟩ := HC.out k hlt
        obtain ⟨bt, offt, rfl, hbt, hct⟩ := HT2.out k hlt
        have c1 := (HB2.out.cell (p := ⟨b, off + k * 2 + 1, none⟩) hb).trans (hc k hlt).2
        have c2 := (HB2.out.cell (p := ⟨bt, offt + k, none⟩) hbt).trans (hct k hlt)
        have hp := HPb.out k hlt
        have HS := Lib.hid (HSt.out k)
        have hdn := HDb.out (k + 1) (by omega)
        rw [HS.out] at hdn
        rw [HD.out] at HS hdn
        clear hc hct
        generalize fp F k = y at *
        generalize P.getD k 0 = p at *
        have s1 : IntKind.i64.wrap (d + p) = d + p := IntWalk.i64_in _ (by omega)
        have s2 : IntKind.i64.wrap (d + p - y) = d + p - y := IntWalk.i64_in _ (by omega)
        have HQ : Hid (d + p - y = d + (p - y)) := Lib.hid (by omega)
        go_wp2_with fail
        go_quiet (fail)
        clear s1 s2
        go_wp2_with fail
        go_roundw
        case rel => exact ⟨k + 1, d + (p - y), by omega, by go_num, by rw [HQ.out], hdn.1, hdn.2, HS, below_drewN HB2.out nq⟩
        case measure => simp [intOf]; omega
      · obtain rfl : k = n := by omega
        go_wp2_with fail
        go_ret
        rw [HE.out, HD.out]
        exact ⟨rfl, HB2.out⟩
end Go.Proofs.Ytfiogefigjnaiaa

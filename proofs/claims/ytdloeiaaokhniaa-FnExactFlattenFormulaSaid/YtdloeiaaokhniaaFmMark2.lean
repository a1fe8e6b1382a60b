/- The walks of numbering kids and reading the numbers back. -/
import Derived.Test.YtdloeiaaokhniaaFmMark
import Derived.Test.YtdloeiaaokhniaaFmSz
namespace Go.Proofs.Ytdloeiaaokhniaa
open Go.RowKit
open FL
set_option maxHeartbeats 4000000
set_option maxRecDepth 100000
set_option linter.unusedVariables false

def MkPost (n : Int) (v : Value) (g : FL) (bs : List Nat) (w : World) (e : Ending) (w' : World) : Prop := e = .returned (.int .i64 (n + 4 * (g.sz : Int))) ∧ KidsB w' v (mkF n g) bs ∧ Kpt bs w w'
def MkOk (g : FL) : Prop := ∀ (v : Value) (w : World) (n : Int) (bs : List Nat), KidsB w v g bs → bs.Nodup → 0 ≤ n → n + 4 * (g.sz : Int) ≤ 1000000000 →
  Calls Try.prog 48 #[v, .int .i64 n] w (MkPost n v g bs w)

theorem mark_any (g : FL) (IH : ∀ g' : FL, g'.sz < g.sz → MkOk g') : MkOk g := by
  intro v w n bs h hn n0 n1
  have HK := Lib.hid h
  obtain ⟨a, cap, rfl, hc, hm, hcase⟩ := h.mid n
  rcases hcase with ⟨hl, rfl⟩ | ⟨b, off, p, rfl, rfl, hb, hmid⟩
  · cases g with
    | cons => simp [FL.len] at hl
    | nil =>
      have h00 : decide ((0 : Int) < 0) = false := rfl
      simp only [FL.len, FL.sz] at *
      clear h IH hn
      go_enter Try.func48, Try.ntmps48
      go_wp2_with fail
      go_loop [1, 5] (fun t i => t = .int .i64 n ∧ i = .int .i64 0) (fun _ _ => 0)
      case atStart => exact ⟨rfl, rfl⟩
      case round =>
        obtain ⟨rfl, rfl⟩ := hrel
        go_wp2_with fail
        go_ret
        exact ⟨by simp [FL.sz], HK.out, Kpt.refl _ _⟩
  · have HI := Lib.hid IH
    have HN := Lib.hid hn
    have hlz := len_le_sz g
    have HM : Hid (∃ f r, g = f.app r ∧ f.len = 0 ∧ n = n + 4 * (f.sz : Int) ∧ Mid w n b off p f r w) := Lib.hid ⟨nil, g, rfl, rfl, by simp [FL.sz], hmid⟩
    have Hc := Lib.hid hc
    have Hm := Lib.hid hm
    clear h hn IH hmid HK hc
    unfold maxLen at hm
    go_enter Try.func48, Try.ntmps48
    go_wp2_with fail
    go_loopw [1, 5] (fun l i wr => ∃ (j : Nat) (y : Int), j ≤ g.len ∧ i = .int .i64 j ∧ l = .int .i64 y ∧ 0 ≤ y ∧ y ≤ n + 4 * (g.sz : Int) ∧ Hid (∃ f r, g = f.app r ∧ f.len = j ∧ y = n + 4 * (f.sz : Int) ∧ Mid w n b off p f r wr)) (fun _ i _ => g.len - (intOf i).toNat)
    case atStart => exact ⟨0, n, by omega, rfl, rfl, by omega, by omega, HM⟩
    case round =>
      obtain ⟨j, y, hj, rfl, rfl, y0, y1, HR⟩ := hrel
      by_cases hlt : j < g.len
      · obtain ⟨f, r, hg, hf, hy, hmid⟩ := HR.out
        cases r with
        | nil => rw [app_nil] at hg; subst hg; omega
        | cons k a b' c h r =>
          have hsz : g.sz = f.sz + (1 + h.sz + r.sz) := by rw [hg, sz_app, FL.sz]
          obtain ⟨v, q, ⟨c0, c1, c2, c3, c4⟩, hfr, hq, hnext⟩ := hmid.step HN.out
          obtain ⟨hk, hgo⟩ := hnext y hy
          have HS := Lib.hid (HI.out h (by omega) v _ (y + 4) q hk hq (by omega) (by omega))
          have HG := Lib.hid hgo
          have HY : Hid (y + 4 + 4 * (h.sz : Int) = n + 4 * ((f.app (cons k a b' c h nil)).sz : Int)) := Lib.hid (by rw [sz_app, FL.sz, FL.sz]; push_cast; omega)
          have HGe : Hid (g = (f.app (cons k a b' c h nil)).app r) := Lib.hid (by rw [hg, app_assoc]; rfl)
          have HLe : Hid ((f.app (cons k a b' c h nil)).len = j + 1) := Lib.hid (by rw [len_app, FL.len, FL.len]; omega)
          have hy4 : y + 4 + 4 * (h.sz : Int) ≤ n + 4 * (g.sz : Int) := by omega
          have z0 := hfr (j * 5)
          have z1 := hfr (j * 5 + 1)
          have z2 := hfr (j * 5 + 2)
          have z3 := hfr (j * 5 + 3)
          rw [hf] at c0 c1 c2 c3 c4 HS HG
          have hv := hk.mid 0
          obtain ⟨av, capv, rfl, _⟩ := hv
          simp only [← Nat.add_assoc] at z1 z2 z3
          have d1 : y + 1 + 1 = y + 2 := by omega
          have d2 : y + 2 + 1 = y + 3 := by omega
          have d3 : y + 3 + 1 = y + 4 := by omega
          unfold set4 at HS HG
          clear hmid hfr hnext hk hgo hg hsz HR hf hy hq hm
          go_wp2_with fail
          refine HS.out.mono ?_
          rintro e w2 ⟨rfl, hk2, kp⟩
          have HM2 := Lib.hid (HG.out w2 hk2 kp)
          have hyn : 0 ≤ y + 4 + 4 * (h.sz : Int) := by omega
          have HQ : Hid (∃ f' r', g = f'.app r' ∧ f'.len = j + 1 ∧ y + 4 + 4 * (h.sz : Int) = n + 4 * (f'.sz : Int) ∧ Mid w n b off p f' r' w2) := Lib.hid ⟨_, r, HGe.out, HLe.out, HY.out, HM2.out⟩
          clear hk2 kp HS HG HM2 HY HGe HLe c0 c1 c2 c3 c4 z0 z1 z2 z3 d1 d2 d3
          generalize y + 4 + 4 * (h.sz : Int) = y' at *
          go_wp2_with fail
          go_roundw
          case rel => exact ⟨j + 1, y', by omega, by first | rfl | go_num, rfl, hyn, hy4, HQ⟩
          case measure => simp [intOf]; omega
      · obtain rfl : j = g.len := by omega
        go_wp2_with fail
        go_ret
        obtain ⟨f, r, hg, hf, hy, hmid⟩ := HR.out
        have hr : r = nil := by
          cases r with
          | nil => rfl
          | cons k a b' c h r => rw [hg, len_app, FL.len] at hf; omega
        subst hr
        rw [app_nil] at hg
        subst hg
        exact ⟨by rw [hy]; rfl, hmid.stop Hc.out Hm.out, hmid.kept⟩
theorem mkOk_all : ∀ (n : Nat) (g : FL), g.sz < n → MkOk g := by
  intro n
  induction n with
  | zero => intro g h; omega
  | succ n ih => intro g h; exact mark_any g (fun g' h' => ih g' (by omega))

def HdOk (g : FL) : Prop := ∀ (v : Value) (w : World) (n : Int), Kids AllS w v (mkF n g) → 0 ≤ n → n + 4 * (g.sz : Int) ≤ 1000000000 →
  Calls Try.prog 49 #[v, .int .i64 n] w fun e w' => e = .returned (.int .i64 (n + 4 * (g.sz : Int))) ∧ Below w.heap.size w w'
theorem held_any (g : FL) (IH : ∀ g' : FL, g'.sz < g.sz → HdOk g') : HdOk g := by
  intro v w n h n0 n1
  obtain ⟨ad, cap, rfl, hc, hm, hcell⟩ := h.cells
  have HCe := Lib.hid hcell
  have HI := Lib.hid IH
  have hlz := len_le_sz g
  rw [mkF_len] at *
  clear h hcell IH
  unfold maxLen at hm
  have HD : Hid (∃ r, FL.drop 0 (mkF n g) = mkF n r ∧ r = FL.drop 0 g ∧ n + 4 * (r.sz : Int) = n + 4 * (g.sz : Int)) := Lib.hid ⟨g, rfl, rfl, rfl⟩
  go_enter Try.func49, Try.ntmps49
  go_wp2_with fail
  go_loopw [1, 5] (fun l i wr => ∃ (j : Nat) (y : Int), j ≤ g.len ∧ i = .int .i64 j ∧ l = .int .i64 y ∧ 0 ≤ y ∧ y ≤ n + 4 * (g.sz : Int) ∧ Hid (∃ r, FL.drop j (mkF n g) = mkF y r ∧ r = FL.drop j g ∧ y + 4 * (r.sz : Int) = n + 4 * (g.sz : Int)) ∧ Hid (Below w.heap.size w wr)) (fun _ i _ => g.len - (intOf i).toNat)
  case atStart => exact ⟨0, n, by omega, rfl, rfl, by omega, by omega, HD, Lib.hid (Below.refl _ _)⟩
  case round =>
    obtain ⟨j, y, hj, rfl, rfl, y0, y1, HR, HB⟩ := hrel
    by_cases hlt : j < g.len
    · obtain ⟨r0, hr1, hr2, hr3⟩ := HR.out
      obtain ⟨k, x1, x2, x3, f, r, hd1, hd2⟩ := FL.drop_at j g hlt
      rw [hd1] at hr2
      subst hr2
      have hd3 : FL.drop (j + 1) (mkF n g) = mkF (y + 4 + 4 * (f.sz : Int)) r := by
        obtain ⟨k', x1', x2', x3', f', r', e1, e2⟩ := FL.drop_at j (mkF n g) (by rw [mkF_len]; exact hlt)
        rw [hr1, mkF] at e1
        injection e1 with _ _ _ _ _ e3
        rw [e2, ← e3]
      rw [mkF] at hr1
      obtain ⟨b, off, rfl, _, hb, hat⟩ := HCe.out (by omega)
      obtain ⟨u, c0, c1, c2, c3, c4, hk⟩ := hat j _ _ _ _ _ _ hr1
      rw [← (bcell HB.out).1 _ _ hb] at c0 c1 c2 c3 c4
      rw [FL.sz] at hr3
      have hy4 : y + 4 + 4 * (f.sz : Int) ≤ n + 4 * (g.sz : Int) := by push_cast at hr3; omega
      have hy5 : y + 4 ≤ 1000000000 := by omega
      have HS := Lib.hid (HI.out f (sz_kid hd1) u wr (y + 4) (hk.below HB.out) (by omega) (by omega))
      obtain ⟨ad, cap', rfl, _⟩ := hk.cells
      have d1 : y + 1 + 1 = y + 2 := by omega
      have d2 : y + 2 + 1 = y + 3 := by omega
      have d3 : y + 3 + 1 = y + 4 := by omega
      have hyn : 0 ≤ y + 4 + 4 * (f.sz : Int) := by omega
      have HQ : Hid (∃ r', FL.drop (j + 1) (mkF n g) = mkF (y + 4 + 4 * (f.sz : Int)) r' ∧ r' = FL.drop (j + 1) g ∧ y + 4 + 4 * (f.sz : Int) + 4 * (r'.sz : Int) = n + 4 * (g.sz : Int)) := Lib.hid ⟨r, hd3, hd2.symm, by push_cast at hr3; omega⟩
      clear hat hk hd1 hd2 hd3 hr1 hr3 HR
      go_wp2_with fail
      refine HS.out.mono ?_
      rintro e w2 ⟨rfl, b2⟩
      have B2 := Lib.hid (HB.out.trans (b2.mono HB.out.size))
      clear b2 HB HS c0 c1 c2 c3 c4 d1 d2 d3
      generalize y + 4 + 4 * (f.sz : Int) = y' at *
      have hd : decide (y' < 0) = false := decide_eq_false (by omega)
      go_wp2_with fail
      go_roundw
      case rel => exact ⟨j + 1, y', by omega, by first | rfl | go_num, rfl, hyn, hy4, HQ, B2⟩
      case measure => simp [intOf]; omega
    · obtain rfl : j = g.len := by omega
      obtain ⟨r0, hr1, hr2, hr3⟩ := HR.out
      rw [FL.drop_end] at hr2
      subst hr2
      have hz : y = n + 4 * (g.sz : Int) := by rw [FL.sz] at hr3; simpa using hr3
      clear hr1 hr3 HR
      go_wp2_with fail
      go_ret
      exact ⟨by rw [hz]; rfl, HB.out⟩
theorem hdOk_all : ∀ (n : Nat) (g : FL), g.sz < n → HdOk g := by
  intro n
  induction n with
  | zero => intro g h; omega
  | succ n ih => intro g h; exact held_any g (fun g' h' => ih g' (by omega))
end Go.Proofs.Ytdloeiaaokhniaa

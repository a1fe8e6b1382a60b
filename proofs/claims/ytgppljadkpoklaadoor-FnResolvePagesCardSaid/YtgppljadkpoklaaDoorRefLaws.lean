/- The law of ResolvePages. -/
import Derived.Test.YtgppljadkpoklaaDoorDrawBlk2
namespace Go.Proofs.YtgppljadkpoklaaDoor
open Go.RowKit
set_option maxHeartbeats 2000000
set_option maxRecDepth 100000

theorem resolvePages_walk (a : Option Addr) (len cap : Nat) (zs : List Int) (w : World) (h : RowIn .u8 w a len cap zs) (hT : Pow10 w) :
    Calls Tryd.prog 8 #[.slice a len cap] w fun e w' => e = .returned (.bool true) ∧ Below w.heap.size w w' := by
  have hm := h.len_le.1
  unfold maxLen at hm
  have HR := Lib.hid h; clear h
  by_cases hl : 1048576 < len
  · go_enter Tryd.func8, Tryd.ntmps8
    go_wp2
    go_ret
    exact ⟨rfl, Below.refl _ _⟩
  · have HT := Lib.hid hT
    clear hT
    go_enter Tryd.func8, Tryd.ntmps8
    go_wp2_with fail
    refine (drawResolvePages_any a len cap zs _ HR.out).mono ?_
    rintro e w1 ⟨v, B, z, hB, rfl, of1, b1⟩
    have B1 := b1
    clear b1
    go_wp2_with fail
    refine (resolvePages_any v B z _ of1.sl (HT.out.below B1)).mono ?_
    rintro e w2 ⟨vp, he2, op, b2⟩
    have B2 := B1.trans (b2.mono B1.size)
    have of1 : OwnB _ _ w2 v B := OwnC.below of1 b2
    clear b2 B1
    cases hp : resS B z with
    | none =>
      have e1 : ((resM B z : Nat) : Int) = 0 := by unfold resM; rw [hp]; rfl
      have e2 : resB B z = false := by unfold resB; rw [hp]; rfl
      have e3 : resL B z = [] := by unfold resL; rw [hp]; rfl
      rw [e1, e2] at he2
      rw [e3] at op
      subst he2
      go_wp2_with fail
      refine (sresolvePages_any v B z _ of1.sl).mono ?_
      rintro e w3 ⟨vq, he3, oq, b3⟩
      have B3 := B2.trans (b3.mono B2.size)
      have op := op.below b3
      rw [e1, e2] at he3
      rw [e3] at oq
      subst he3
      clear b3 B2 e1 e2 e3 of1
      go_wp2_with fail
      refine (equalInts_any vp vq _ _ _ op.sl oq.sl).mono ?_
      rintro e w4 ⟨n4, rfl, rfl⟩
      have B4 := blwD B3 n4
      have op := op.drewN n4
      have oq := oq.drewN n4
      clear B3
      generalize w3.drewN n4 = w4 at *
      go_wp2_with fail
      refine (equalInts_any vp vq _ _ _ op.sl oq.sl).mono ?_
      rintro e w5 ⟨n5, rfl, rfl⟩
      go_wp2_with fail
      go_ret
      exact ⟨rfl, blwD B4 n5⟩
    | some t =>
      obtain ⟨R, m⟩ := t
      obtain ⟨s1, s2, s3, s4, s5⟩ := resS_some hp
      have e1 : resM B z = m := by unfold resM; rw [hp]; rfl
      have e2 : resB B z = true := by unfold resB; rw [hp]; rfl
      have e3 : resL B z = R := by unfold resL; rw [hp]; rfl
      rw [e1, e2] at he2
      rw [e3] at op
      subst he2
      go_wp2_with fail
      refine (sresolvePages_any v B z _ of1.sl).mono ?_
      rintro e w3 ⟨vq, he3, oq, b3⟩
      have B3 := B2.trans (b3.mono B2.size)
      have op := op.below b3
      have of1 : OwnB _ _ w3 v B := OwnC.below of1 b3
      rw [e1, e2] at he3
      rw [e3] at oq
      subst he3
      clear b3 B2 e1 e2 e3 hp
      have hmn : ((m : Int) != (m : Int)) = false := by simp
      have hm1 : decide (1 ≤ m) = true := decide_eq_true s2
      have hm2 : decide ((1 : Int) ≤ (m : Int)) = true := decide_eq_true (by omega)
      have hm3 : decide (m ≤ 20) = true := decide_eq_true s3
      have hm4 : decide ((m : Int) ≤ 20) = true := decide_eq_true (by omega)
      go_wp2_with fail
      refine (equalInts_any vp vq _ _ _ op.sl oq.sl).mono ?_
      rintro e w4 ⟨n4, rfl, rfl⟩
      have B4 := blwD B3 n4
      have of1 : OwnB _ _ (w3.drewN n4) v B := OwnC.drewN of1 n4
      have op := op.drewN n4
      clear B3 oq
      generalize w3.drewN n4 = w4 at *
      go_wp2_with fail
      refine (chkR_any v vp B z R _ of1.sl op.sl (HT.out.below B4)).mono ?_
      rintro e w5 ⟨rfl, b5⟩
      rw [s1]
      have B5 := Lib.hid (B4.trans (b5.mono B4.size))
      have op := op.sl.below b5
      have HS := Lib.hid op
      obtain ⟨ap, cp, rfl⟩ : ∃ a c, vp = .slice a 10 c := by obtain ⟨a, c, e, _⟩ := op; rw [s4] at e; exact ⟨a, c, e⟩
      obtain ⟨b, off, rfl, hb, hc⟩ := HS.out.cells (by omega)
      have c0 := hc 0 (by omega)
      rw [s5, Nat.add_zero] at c0
      have hcp : 10 ≤ cp ∧ cp ≤ maxLen := by obtain ⟨_, _, e, h1, h2, _⟩ := op; injection e with _ _ e; subst e; rw [s4] at h1; exact ⟨h1, h2⟩
      unfold maxLen at hcp
      clear b5 B4 s1 s2 s3 s4 s5 of1 op HS hc
      go_wp2_with fail
      go_ret
      exact ⟨rfl, B5.out⟩
end Go.Proofs.YtgppljadkpoklaaDoor

/- Drawn levels: at most nine numbers. -/
import Derived.Test.YtbecdndeddkibaaEqualInts
namespace Go.Proofs.Ytbecdndeddkibaa
open Go.RowKit
set_option maxHeartbeats 1000000
set_option maxRecDepth 100000

theorem own_nil' (lo hi : Nat) (w : World) (h : hi ≤ w.heap.size) : OwnI lo hi w (.slice none 0 0) [] := ⟨World.ownsRow_nil .., fun k hk => by simp [Value.ownBlock] at hk, h⟩
def DrewInts (m : Nat) (w : World) (e : Ending) (w' : World) : Prop := ∃ (v : Value) (L : List Int), L.length ≤ m ∧ e = .returned v ∧ OwnI w.heap.size w'.heap.size w' v L ∧ Below w.heap.size w w'
theorem drawOrderOf_any (a : Option Addr) (len cap : Nat) (zs : List Int) (w : World) (h : RowIn .u8 w a len cap zs) :
    Calls Try.prog 15 #[.slice a len cap] w (DrewInts 9 w) := by
  have HR := Lib.hid h; clear h
  go_enter Try.func15, Try.ntmps15
  go_wp2_with fail
  refine (newReader_any a len cap zs _ HR.out).mono ?_
  rintro e w1 ⟨rfl, hR, hb⟩
  have hlt : w.heap.size < w1.heap.size := hR.lies
  have HO : Hid ((w1.alloc (.cells #[] 3)).ownsRow (w.heap.size + 1) 3 1 (.slice (some ⟨w1.heap.size, 0, none⟩) 0 0) 0 (([] : List Int).map (Value.int .i64))) :=
    World.ownsRow_lit w1 #[] 0 hlt (Nat.zero_le _) rfl
  have hb2 : Below w1.heap.size w1 (w1.alloc (.cells #[] 3)) := (Below.refl _ _).alloc (Nat.le_refl _) _
  have hR2 := hR.below hb2
  have HB2 : Hid (Below w.heap.size w (w1.alloc (.cells #[] 3))) := hb.trans (hb2.mono (Nat.le_of_lt hlt))
  clear hb hb2 hR
  go_wp2_with fail
  refine (pick_pos w.heap.size 0 10 _ (by omega) (by omega) hR2).mono ?_
  rintro e w2 ⟨c, hc, rfl, hR3, hK3⟩
  have HO3 := Lib.hid (owns_keeps HO.out hK3 (Nat.lt_succ_self _))
  have HB3 := Lib.hid (HB2.out.trans hK3.below)
  have HR3 := Lib.hid hR3
  clear HO HB2 hK3 hR3 hR2
  go_wp2_with fail
  go_loopw [4, 5] (fun v n wr => ∃ (k : Nat) (L : List Int), n = .int .i64 k ∧ k + L.length ≤ 9 ∧ Hid (Rdr wr w.heap.size (1 + L.length)) ∧ Hid (Below w.heap.size w wr) ∧ Hid (wr.ownsRow (w.heap.size + 1) 3 1 v L.length (L.map (Value.int .i64)))) (fun _ n _ => (intOf n).toNat)
  case atStart => exact ⟨c, [], rfl, by simp; omega, HR3, HB3, HO3⟩
  case round =>
    clear HO3 HB3 HR3 hc
    obtain ⟨k, L, rfl, hkl, HR, HB, HO⟩ := hrel
    by_cases hk : 0 < k
    · go_wp2_with fail
      refine (pick_pos w.heap.size (1 + L.length) 4 _ (by omega) (by omega) HR.out).mono ?_
      rintro e w3 ⟨x, hx, rfl, hR3, hK3⟩
      have hown := owns_keeps HO.out hK3 (Nat.lt_succ_self _)
      have HB3 := Lib.hid (HB.out.trans hK3.below)
      have hl3 := hR3.lies
      have HR3 := Lib.hid hR3
      clear hK3 hR3 HO HB HR
      go_wp2_with (at_builtin; go_must (refine wpList_append_int rfl _ _ rfl (w.heap.size + 1) _ L.length L (x : Int) hown rfl rfl (by omega) (by omega) ?_))
      intro v' w4 hown' hgrow
      obtain ⟨hR4, hb4⟩ := HR3.out.grown hgrow (fun j hj => by have := (hown.lt j hj).1; omega)
      have HB4 := Lib.hid (HB3.out.trans hb4)
      have HR4 := Lib.hid hR4
      have HO4 : Hid (w4.ownsRow (w.heap.size + 1) 3 1 v' (L ++ [(x : Int)]).length ((L ++ [(x : Int)]).map (Value.int .i64))) := Lib.hid (by simpa using hown')
      have HSub : Hid ((k : Int) - 1 = ((k - 1 : Nat) : Int)) := Lib.hid (by omega)
      clear hown hown' hgrow hR4 hb4 HB3 HR3
      go_wp2_with fail
      rw [HSub.out]
      go_roundw
      case rel => exact ⟨k - 1, L ++ [(x : Int)], rfl, by simp; omega, Lib.hid (HR4.out.mono (by simp; omega)), HB4, HO4⟩
      case measure => simp [intOf]; omega
    · obtain rfl : k = 0 := by omega
      have hBz := HB.out.size
      rcases HO.out.2 with ⟨rfl, h0⟩ | ⟨g, cp, cur, rfl, hg1, hg2, hg3, hg4, _⟩
      · have hL : L = [] := List.length_eq_zero_iff.1 h0
        subst hL
        go_wp2_with fail
        go_ret
        exact ⟨_, [], by simp, rfl, own_nil' _ _ _ (Nat.le_refl _), HB.out⟩
      · clear hg2
        by_cases hn : L.length = 0
        · have HOwn : Hid (OwnI w.heap.size wr.heap.size wr (.slice (some ⟨g, 0, none⟩) L.length cp) L) := (OwnI.mk HO.out (fun j hj => (HO.out.lt j hj).2) (Nat.le_refl _)).mono (by omega) (Nat.le_refl _) (Nat.le_refl _)
          obtain rfl : L = [] := List.length_eq_zero_iff.1 hn
          clear hn
          go_wp2_with fail
          go_ret
          exact ⟨_, [], by simp, rfl, HOwn.out, HB.out⟩
        · have hd : decide ((0 : Int) < (L.length : Int)) = true := by simp; omega
          have hpos : 0 < L.length := by omega
          go_wp2_with fail
          refine (pick_pos w.heap.size (1 + L.length) 12 _ (by omega) (by omega) HR.out).mono ?_
          rintro e w3 ⟨x, hx, rfl, hR3, hK3⟩
          have HO3 := Lib.hid (owns_keeps HO.out hK3 (Nat.lt_succ_self _))
          have HB3 := Lib.hid (HB.out.trans hK3.below)
          have HR3 := Lib.hid hR3
          clear hK3 hR3 HO HB HR hd hn hBz
          by_cases hx0 : x = 0
          · subst hx0
            go_wp2_with fail
            have hb := Below.alloc (Below.refl w3.heap.size w3) (Nat.le_refl _) (.cells (([-1, 7, 6] : List Int).map (Value.int .i64)).toArray 3)
            have hgl := (HO3.out.lt g rfl).2
            obtain ⟨zf, hzf⟩ : ∃ zf : Nat → Int, ∀ i, i < 3 → (w3.alloc (.cells (([-1, 7, 6] : List Int).map (Value.int .i64)).toArray 3)).cell? ⟨w3.heap.size, 0 + i, none⟩ = some (.int .i64 (zf i)) := ⟨fun i => ([-1, 7, 6] : List Int).getD i 0, fun i hi => new_row w3 _ _ i hi⟩
            refine (one_any w.heap.size (1 + L.length + 1) w3.heap.size 0 3 3 zf _ (by omega) (by omega) (by omega) (HR3.out.below hb) (by simp) (by have := HR3.out.lies; omega) hzf).mono ?_
            rintro e w4 ⟨i, hi, rfl, hR4, hK4⟩
            have hown := owns_keeps (HO3.out.alloc (.cells (([-1, 7, 6] : List Int).map (Value.int .i64)).toArray 3)) hK4 (Nat.lt_succ_self _)
            have HB4 : Hid (Below w.heap.size w w4) := (HB3.out.trans (hb.mono (Nat.le_of_lt HR3.out.lies))).trans hK4.below
            generalize zf i = z at *
            have c0 : w4.cell? ⟨g, 0, none⟩ = some (.int .i64 (L.getD 0 0)) := by rw [hown.cellAt 0 (by omega)]; exact getD_map_int L 0 hpos
            have f0 : w4.frozen? ⟨g, 0, none⟩ = false := hown.frozenAt 0
            have HS := Lib.hid (hown.stored 0 (.int .i64 z)).1
            clear hb hK4 hR4 hown hzf HB3 HR3 HO3
            generalize L.getD 0 0 = y at *
            go_wp2_with fail
            go_ret
            refine ⟨_, L.set 0 z, by simp; omega, rfl, ?_, HB4.out.setCell (by show w.heap.size ≤ g; omega) _⟩
            have h := HS.out
            rw [← List.map_set] at h
            have hl : (L.set 0 z).length = L.length := by simp
            exact (OwnI.mk (by rw [hl]; exact h) (fun j hj => (h.lt j hj).2) (Nat.le_refl _)).mono (by omega) (Nat.le_refl _) (Nat.le_refl _)
          · have hxe : ((x : Int) == 0) = false := by simpa using hx0
            have HOwn : Hid (OwnI w.heap.size w3.heap.size w3 (.slice (some ⟨g, 0, none⟩) L.length cp) L) := (OwnI.mk HO3.out (fun j hj => (HO3.out.lt j hj).2) (Nat.le_refl _)).mono (by omega) (Nat.le_refl _) (Nat.le_refl _)
            go_wp2_with fail
            go_ret
            exact ⟨_, L, by omega, rfl, HOwn.out, HB3.out⟩
end Go.Proofs.Ytbecdndeddkibaa

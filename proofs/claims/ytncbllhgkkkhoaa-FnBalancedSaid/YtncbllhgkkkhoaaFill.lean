/- Filling columns: the ends of the columns and whether every line fits. -/
import Derived.Test.YtncbllhgkkkhoaaCols
namespace Go.Proofs.Ytncbllhgkkkhoaa
open Go.RowKit
set_option maxHeartbeats 1000000
set_option maxRecDepth 100000

theorem own_nil0 (lo hi : Nat) (w : World) (h : hi ≤ w.heap.size) : OwnI lo hi w (.slice none 0 0) [] := ⟨World.ownsRow_nil .., fun k hk => by simp [Value.ownBlock] at hk, h⟩
theorem own_row {B : Nat} {w : World} {v : Value} {n : Nat} {L : List Int} (h : w.ownsRow B 3 1 v n (L.map (Value.int .i64))) (hn : L.length = n) : OwnI B w.heap.size w v L :=
  ⟨by rw [hn]; exact h, fun j hj => (h.lt j hj).2, Nat.le_refl _⟩

def tl (h : Int) (L : List Int) (k : Nat) : List Int := (cols h L k).1.tail
theorem tl_succ (h : Int) (L : List Int) (k : Nat) (hk : 0 < cnt h L k) : tl h L (k + 1) = if room h L k < L.getD k 0 then tl h L k ++ [(k : Int)] else tl h L k := by
  unfold tl room
  unfold cnt at hk
  rw [cols]
  split
  · cases hc : (cols h L k).1 with
    | nil => rw [hc] at hk; simp at hk
    | cons y r => simp
  · rfl
theorem tl_one (h : Int) (L : List Int) : tl h L 1 = [] := by
  unfold tl; rw [cols]; split <;> simp [cols]
theorem tl_len (h : Int) (L : List Int) (k : Nat) : (tl h L k).length = cnt h L k - 1 := by unfold tl cnt; simp
theorem endsF_len (h : Int) (L : List Int) (h0 : 0 ≤ h) (hok : okH L = true) (hf : fitB h L = true) : (endsF h L).length = cnt h L L.length := by
  unfold endsF
  have b := room_bd h L L.length h0 (fun k hk => ⟨((okH_at hok).2 k hk).1, fitB_at hf k hk⟩) L.length (Nat.le_refl _)
  split
  · rename_i e; rw [e, cnt_zero]; rfl
  · have := tl_len h L L.length
    unfold tl at this
    rw [List.length_append, this]
    have := b.2.2.2.1 (by omega)
    simp; omega

def Filled (h : Int) (L : List Int) (w : World) (e : Ending) (w' : World) : Prop :=
  ∃ v, e = .returned (.tuple #[v, .bool (fitB h L)]) ∧ OwnI w.heap.size w'.heap.size w' v (if fitB h L then endsF h L else []) ∧ Below w.heap.size w w'

theorem Filled.no {h : Int} {L : List Int} {w w' : World} {e : Ending} (hf : fitB h L = false) (hb : Below w.heap.size w w') (he : e = .returned (.tuple #[.slice none 0 0, .bool false])) : Filled h L w e w' :=
  ⟨_, by rw [hf]; exact he, by rw [hf]; exact own_nil0 _ _ _ (Nat.le_refl _), hb⟩
theorem Filled.yes {h : Int} {L : List Int} {w w' : World} {e : Ending} {v : Value} (hf : fitB h L = true) (hb : Below w.heap.size w w') (ho : OwnI w.heap.size w'.heap.size w' v (endsF h L)) (he : e = .returned (.tuple #[v, .bool true])) : Filled h L w e w' :=
  ⟨v, by rw [hf]; exact he, by rw [hf]; exact ho, hb⟩

theorem fillColumns_any (v : Value) (L : List Int) (h : Int) (w : World) (hs : SlI w v L) (hok : okH L = true) (h0 : 0 ≤ h) (h1 : h ≤ 100000) :
    Calls Try.prog 39 #[v, .int .i64 h] w (Filled h L w) := by
  obtain ⟨hl, hk⟩ := okH_at hok
  have HW := Lib.hid hs
  obtain ⟨a, cap, rfl, h2, h3, _⟩ := hs
  unfold maxLen at h3
  have HC : Hid (∀ k, k < L.length → ∃ b off, a = some ⟨b, off, none⟩ ∧ b < w.heap.size ∧ ∀ j, j < L.length → w.cell? ⟨b, off + j, none⟩ = some (.int .i64 (L.getD j 0))) := fun k hk => HW.out.cells (by omega)
  have HK := Lib.hid hk
  have HBad : Hid (∀ k, k < L.length → h < L.getD k 0 → fitB h L = false) := fun k hk hx => fitB_bad k hk hx
  have HGood : Hid ((∀ k, k < L.length → L.getD k 0 ≤ h) → fitB h L = true) := fitB_of
  have HBd : Hid (∀ k, k ≤ L.length → (∀ j, j < k → L.getD j 0 ≤ h) → 0 ≤ room h L k ∧ room h L k ≤ h ∧ cnt h L k ≤ k ∧ (0 < k → 0 < cnt h L k)) := fun k hk2 hx => by
    have := room_bd h L k h0 (fun j hj => ⟨(hk j (by omega)).1, hx j hj⟩) k (Nat.le_refl _)
    exact ⟨this.1, this.2.1, this.2.2.1, this.2.2.2.1⟩
  have HS1 := Lib.hid (tl_succ h L)
  have HS2 := Lib.hid (room_succ h L)
  have HE0 : Hid (L.length = 0 → endsF h L = []) := fun e => by unfold endsF; rw [if_pos e]
  have HE1 : Hid (¬ L.length = 0 → endsF h L = tl h L L.length ++ [(L.length : Int)]) := fun e => by unfold endsF; rw [if_neg e]; rfl
  have HT1 := Lib.hid (tl_one h L)
  have HTl := Lib.hid (tl_len h L)
  have HR0 : Hid (room h L 0 = 0) := rfl
  have HO0 : Hid (w.ownsRow w.heap.size 3 1 (.slice none 0 0) (tl h L 0).length ((tl h L 0).map (Value.int .i64))) := World.ownsRow_nil ..
  clear hk HW hok
  generalize hn : L.length = n at *
  clear hn
  go_enter Try.func39, Try.ntmps39
  go_wp2_with fail
  go_loopw [6, 7, 12] (fun v r i wr => ∃ k : Nat, k ≤ n ∧ i = .int .i64 k ∧ r = .int .i64 (room h L k) ∧ Hid (∀ j, j < k → L.getD j 0 ≤ h) ∧ Hid (Below w.heap.size w wr) ∧ Hid (wr.ownsRow w.heap.size 3 1 v (tl h L k).length ((tl h L k).map (Value.int .i64)))) (fun _ _ i _ => n - (intOf i).toNat)
  case atStart => exact ⟨0, by omega, rfl, rfl, fun j hj => by omega, Below.refl _ _, HO0⟩
  case round =>
    clear HO0
    obtain ⟨k, hk, rfl, rfl, HP, HB, HO⟩ := hrel
    obtain ⟨b1, b2, b3, b4⟩ := HBd.out k hk HP.out
    have hBs := HB.out.size
    have hTl := HTl.out k
    by_cases hlt : k < n
    · obtain ⟨b, off, rfl, hb, hc⟩ := HC.out k hlt
      have c0 := (HB.out.cell (p := ⟨b, off + k, none⟩) hb).trans (hc k hlt)
      have hx := HK.out k hlt
      have HB1 := Lib.hid (HBad.out k hlt)
      have HP1 : Hid (L.getD k 0 ≤ h → ∀ j, j < k + 1 → L.getD j 0 ≤ h) := by
        intro hx j hj
        by_cases hjk : j = k
        · subst hjk; exact hx
        · exact HP.out j (by omega)
      have HT2 := Lib.hid (HS2.out k)
      have HT3 := Lib.hid (HS1.out k)
      have HLn : Hid ((tl h L k).length = cnt h L k - 1) := Lib.hid hTl
      clear hc HP
      generalize L.getD k 0 = x at *
      by_cases hxh : h < x
      · have HF := Lib.hid (HB1.out hxh)
        clear HP1 HB1 HT2 HT3 hTl b4
        go_wp2_with fail
        go_ret2
        exact Filled.no HF.out HB.out rfl
      · have HP2 := Lib.hid (HP1.out (by omega))
        clear HP1 HB1
        generalize hrm : room h L k = r at *
        have HRM := Lib.hid hrm
        clear hrm
        by_cases hk0 : k = 0
        · subst hk0
          have hr0 : r = 0 := by rw [← HRM.out]; rfl
          subst hr0
          rw [Nat.add_zero] at c0
          have hrx : (0 : Int) < x := by omega
          have HU2 : Hid (room h L (0 + 1) = h - x) := Lib.hid (by rw [HT2.out, if_pos hrx])
          have HO2 : Hid (wr.ownsRow w.heap.size 3 1 u6 (tl h L (0 + 1)).length ((tl h L (0 + 1)).map (Value.int .i64))) := Lib.hid (by rw [HT1.out]; exact HO.out)
          clear HT2 HT3 hTl b4 HO
          go_wp2_with fail
          go_roundw
          case rel => exact ⟨0 + 1, by omega, by go_num, by rw [HU2.out], HP2, HB, HO2⟩
          case measure => simp [intOf]; omega
        · have hcp := b4 (by omega)
          have hkp : decide ((0 : Int) < (k : Int)) = true := by simp; omega
          have hke : ((k : Int) == 0) = false := by rw [beq_eq_false_iff_ne]; omega
          by_cases hrx : r < x
          · have HU2 : Hid (room h L (k + 1) = h - x) := Lib.hid (by rw [HT2.out, if_pos hrx])
            have HU3 : Hid (tl h L (k + 1) = tl h L k ++ [(k : Int)]) := Lib.hid (by rw [HT3.out hcp, if_pos hrx])
            clear HT2 HT3 hTl b4
            generalize tl h L k = T at *
            go_wp2_with (at_builtin; go_must (refine wpList_append_int rfl _ _ rfl w.heap.size _ T.length T (k : Int) HO.out rfl rfl (by have := HLn.out; omega) hBs ?_))
            intro v' w' g1 g2
            have HB2 : Hid (Below w.heap.size w w') := HB.out.grown g2 hBs (fun j hj => (HO.out.lt j hj).1)
            have HO2 : Hid (w'.ownsRow w.heap.size 3 1 v' (tl h L (k + 1)).length ((tl h L (k + 1)).map (Value.int .i64))) := Lib.hid (by rw [HU3.out]; simpa using g1)
            clear g1 g2 HB HO hBs
            go_wp2_with fail
            go_roundw
            case rel => exact ⟨k + 1, by omega, by go_num, by rw [HU2.out], HP2, HB2, HO2⟩
            case measure => simp [intOf]; omega
          · have HU2 : Hid (room h L (k + 1) = r - x) := Lib.hid (by rw [HT2.out, if_neg hrx])
            have HU3 : Hid (tl h L (k + 1) = tl h L k) := Lib.hid (by rw [HT3.out hcp, if_neg hrx])
            have HO2 : Hid (wr.ownsRow w.heap.size 3 1 u6 (tl h L (k + 1)).length ((tl h L (k + 1)).map (Value.int .i64))) := Lib.hid (by rw [HU3.out]; exact HO.out)
            clear HT2 HT3 hTl b4 HO
            go_wp2_with fail
            go_roundw
            case rel => exact ⟨k + 1, by omega, by go_num, by rw [HU2.out], HP2, HB, HO2⟩
            case measure => simp [intOf]; omega
    · obtain rfl : k = n := by omega
      have HF := Lib.hid (HGood.out HP.out)
      have HLn : Hid ((tl h L k).length = cnt h L k - 1) := Lib.hid hTl
      by_cases hk0 : k = 0
      · subst hk0
        have HE := Lib.hid (HE0.out rfl)
        have HO2 : Hid (wr.ownsRow w.heap.size 3 1 u6 0 (([] : List Int).map (Value.int .i64))) := HO.out
        clear hTl b4 HO
        go_wp2_with fail
        go_ret2
        exact Filled.yes HF.out HB.out (by rw [HE.out]; exact own_row HO2.out rfl) rfl
      · have HE := Lib.hid (HE1.out hk0)
        have hkp : decide ((0 : Int) < (k : Int)) = true := by simp; omega
        clear hTl b4
        generalize tl h L k = T at *
        go_wp2_with (at_builtin; go_must (refine wpList_append_int rfl _ _ rfl w.heap.size _ T.length T (k : Int) HO.out rfl rfl (by have := HLn.out; omega) hBs ?_))
        intro v' w' g1 g2
        have HB2 : Hid (Below w.heap.size w w') := HB.out.grown g2 hBs (fun j hj => (HO.out.lt j hj).1)
        have HO2 : Hid (OwnI w.heap.size w'.heap.size w' v' (T ++ [(k : Int)])) := Lib.hid (own_row (by simpa using g1) (by simp))
        clear g1 g2 HB HO hBs
        go_wp2_with fail
        go_ret2
        exact Filled.yes HF.out HB2.out (by rw [HE.out]; exact HO2.out) rfl
end Go.Proofs.Ytncbllhgkkkhoaa

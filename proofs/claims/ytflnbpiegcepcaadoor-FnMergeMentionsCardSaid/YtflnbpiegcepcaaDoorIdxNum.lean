/- The reference's addNumber. -/
import Derived.Test.YtflnbpiegcepcaaDoorIdxCat
import Derived.StillTailTactics
namespace Go.Proofs.YtflnbpiegcepcaaDoor
open Go.RowKit
set_option maxHeartbeats 2000000
set_option maxRecDepth 100000
set_option linter.unusedVariables false

/-- A slice cut behind its first k numbers. -/
theorem SlI.take {w : World} {a : Option Addr} {n cap : Nat} {L : List Int} (h : SlI w (.slice a n cap) L) (k : Nat) (hk : k ≤ n) : SlI w (.slice a k cap) (L.take k) := by
  obtain ⟨a', cap', e, h1, h2, h3⟩ := h
  injection e with e1 e2 e3
  subst e1 e2 e3
  have hl : (L.take k).length = k := by rw [List.length_take]; omega
  refine ⟨a, cap, by rw [hl], by omega, h2, ?_⟩
  rcases h3 with rfl | ⟨b, off, rfl, hb, hc⟩
  · exact .inl (by simp)
  · refine .inr ⟨b, off, rfl, hb, fun i hi => ?_⟩
    rw [hl] at hi
    rw [hc i (by omega)]
    simp [List.getD_eq_getElem?_getD, hi]
/-- A slice from its place k on; at the end its address does not matter. -/
theorem SlI.drop {w : World} {b off n cap : Nat} {L : List Int} (h : SlI w (.slice (some ⟨b, off, none⟩) n cap) L) (k : Nat) (hk : k ≤ n) : SlI w (.slice (some ⟨b, off + k, none⟩) (n - k) (cap - k)) (L.drop k) := by
  obtain ⟨a', cap', e, h1, h2, h3⟩ := h
  injection e with e1 e2 e3
  subst e1 e2 e3
  have hl : (L.drop k).length = L.length - k := List.length_drop
  refine ⟨_, _, by rw [hl], by omega, by omega, ?_⟩
  by_cases h0 : k = L.length
  · exact .inl (List.drop_eq_nil_of_le (by omega))
  rcases h3 with rfl | ⟨b', off', e, hb, hc⟩
  · exact .inl (by simp)
  · injection e with e; injection e with e1 e2; subst e1 e2
    refine .inr ⟨b, off + k, rfl, hb, fun i hi => ?_⟩
    rw [hl] at hi
    rw [Nat.add_assoc, hc (k + i) (by omega)]
    simp [List.getD_eq_getElem?_getD]
theorem slI_none {w : World} {a : Option Addr} {cap : Nat} (hc : cap ≤ maxLen) : SlI w (.slice a 0 cap) [] := ⟨a, cap, rfl, Nat.zero_le _, hc, .inl rfl⟩

theorem addN_at (n : Int) : ∀ (L : List Int) (k : Nat), k ≤ L.length → (∀ j, j < k → L.getD j 0 < n) → (k < L.length → ¬ L.getD k 0 < n) →
    (k < L.length → L.getD k 0 = n → addN L n = L) ∧ ((k < L.length → L.getD k 0 ≠ n) → addN L n = L.take k ++ n :: L.drop k)
  | [], k, hk, _, _ => by
    obtain rfl : k = 0 := by simpa using hk
    exact ⟨fun h => by simp at h, fun _ => by simp [addN]⟩
  | x :: r, 0, _, _, h2 => by
    have h2 : ¬ x < n := by simpa using h2 (by simp)
    refine ⟨fun _ e => ?_, fun h => ?_⟩
    · have e : x = n := by simpa using e
      rw [addN, if_neg h2, if_pos e]
    · have e : x ≠ n := by simpa using h (by simp)
      rw [addN, if_neg h2, if_neg e]; simp
  | x :: r, k + 1, hk, h1, h2 => by
    have hx : x < n := by simpa using h1 0 (by omega)
    have ih := addN_at n r k (by simpa using hk) (fun j hj => by simpa using h1 (j + 1) (by omega)) (fun h => by simpa using h2 (by simpa using h))
    refine ⟨fun h e => ?_, fun h => ?_⟩
    · rw [addN, if_pos hx, ih.1 (by simpa using h) (by simpa using e)]
    · rw [addN, if_pos hx, ih.2 (fun h' => by simpa using h (by simpa using h'))]; simp

/-- The same slice, or a row of the call's own. -/
def Num (v : Value) (L : List Int) (n : Int) (w : World) (e : Ending) (w' : World) : Prop := ∃ v', e = .returned v' ∧ Below w.heap.size w w' ∧ ((v' = v ∧ addN L n = L) ∨ OwnI w.heap.size w'.heap.size w' v' (addN L n))
theorem addNumber_any (v : Value) (L : List Int) (n : Int) (w : World) (h : SlI w v L) (hv : v = .slice none 0 0 ∨ ∃ b off c, v = .slice (some ⟨b, off, none⟩) L.length c) (hl : L.length ≤ 100000) :
    Calls Tryd.prog 51 #[v, .int .i64 n] w (Num v L n w) := by
  have HS := Lib.hid h
  have HAt := Lib.hid (addN_at n L)
  have HEnd : Hid (∀ (v' : Value) (w' : World), w'.ownsRow w.heap.size 3 1 v' (addN L n).length ((addN L n).map (Value.int .i64)) → Below w.heap.size w w' → Num v L n w (.returned v') w') := Lib.hid (fun v' w' h1 h2 => ⟨v', rfl, h2, .inr ⟨h1, fun k hk => (h1.lt k hk).2, Nat.le_refl _⟩⟩)
  rcases hv with rfl | ⟨b, off, cap, rfl⟩
  · have h0 : L = [] := by
      obtain ⟨a, c, e, _⟩ := h
      injection e with _ e _
      exact List.length_eq_zero_iff.1 e.symm
    subst h0
    have HO1 : Hid ((w.alloc (.cells #[] 3)).ownsRow w.heap.size 3 1 (.slice (some ⟨w.heap.size, 0, none⟩) 0 0) 0 (([] : List Int).map (Value.int .i64))) := Lib.hid (World.ownsRow_lit w #[] 0 (Nat.le_refl _) (Nat.zero_le _) rfl)
    have HB1 : Hid (Below w.heap.size w (w.alloc (.cells #[] 3))) := Lib.hid ((Below.refl _ _).alloc (Nat.le_refl _) _)
    clear HS HAt h hl
    go_enter Tryd.func51, Tryd.ntmps51
    go_wp2_with fail
    go_loopw [5] (fun i wr => i = .int .i64 0 ∧ wr = w) (fun _ _ => 0)
    case atStart => exact ⟨rfl, rfl⟩
    case round =>
      obtain ⟨rfl, rfl⟩ := hrel
      go_wp2_with (first
        | (at_builtin; refine wpList_append_sl rfl _ _ rfl wr.heap.size v2 (.slice none 0 0) 1 [n] [] H2.out rfl rfl (slI_none (Nat.zero_le _)) (by simp) HB2.out.size ?_; intro v3 w3 h3 g3; have H3 := Lib.hid h3; have HB3 : Hid (Below wr.heap.size wr w3) := Lib.hid (HB2.out.grown g3 HB2.out.size (fun j hj => (H2.out.lt j hj).1)); clear h3 g3)
        | (at_builtin; refine wpList_append_int rfl _ _ rfl wr.heap.size v1 0 [] n H1.out rfl rfl (by simp) HB11.out.size ?_; intro v2 w2 h2 g2; have H2 : Hid (w2.ownsRow wr.heap.size 3 1 v2 1 ([n].map (Value.int .i64))) := Lib.hid h2; have HB2 : Hid (Below wr.heap.size wr w2) := Lib.hid (HB11.out.grown g2 HB11.out.size (fun j hj => (H1.out.lt j hj).1)); clear h2 g2)
        | (at_builtin; refine wpList_append_sl rfl _ _ rfl wr.heap.size (.slice (some ⟨wr.heap.size, 0, none⟩) 0 0) (.slice none 0 0) 0 [] [] HO1.out rfl rfl (slI_none (Nat.zero_le _)) (by simp) HB1.out.size ?_; intro v1 w1 h1 g1; have H1 : Hid (w1.ownsRow wr.heap.size 3 1 v1 0 (([] : List Int).map (Value.int .i64))) := Lib.hid h1; have HB11 : Hid (Below wr.heap.size wr w1) := Lib.hid (HB1.out.grown g1 HB1.out.size (fun j hj => (HO1.out.lt j hj).1)); clear h1 g1))
      go_ret
      exact HEnd.out _ _ H3.out HB3.out
  · have hm : L.length ≤ cap ∧ cap ≤ maxLen := by
      obtain ⟨a, c, e, h1, h2, _⟩ := h
      injection e with _ _ e; subst e; exact ⟨h1, h2⟩
    obtain ⟨hc, hm⟩ := hm
    unfold maxLen at hm
    have HO1 : Hid ((w.alloc (.cells #[] 3)).ownsRow w.heap.size 3 1 (.slice (some ⟨w.heap.size, 0, none⟩) 0 0) 0 (([] : List Int).map (Value.int .i64))) := Lib.hid (World.ownsRow_lit w #[] 0 (Nat.le_refl _) (Nat.zero_le _) rfl)
    have HB1 : Hid (Below w.heap.size w (w.alloc (.cells #[] 3))) := Lib.hid ((Below.refl _ _).alloc (Nat.le_refl _) _)
    have HTk : Hid (∀ k, k ≤ L.length → (L.take k).length = k ∧ (L.drop k).length = L.length - k) := Lib.hid (fun k hk => ⟨by rw [List.length_take]; omega, List.length_drop⟩)
    obtain ⟨N, hN⟩ : ∃ N, L.length = N := ⟨_, rfl⟩
    have HN := Lib.hid hN
    rw [hN] at HS HAt HEnd HTk hc hl ⊢
    clear hN h
    go_enter Tryd.func51, Tryd.ntmps51
    go_wp2_with fail
    go_loopw [5] (fun i wr => ∃ k : Nat, k ≤ N ∧ i = .int .i64 k ∧ wr = w ∧ Hid (∀ j, j < k → L.getD j 0 < n)) (fun i _ => N - (intOf i).toNat)
    case atStart => exact ⟨0, by omega, rfl, rfl, Lib.hid (fun j hj => by omega)⟩
    case round =>
      obtain ⟨k, hk, rfl, rfl, HP⟩ := hrel
      have HT := Lib.hid (HS.out.take k hk)
      have HD := Lib.hid (HS.out.drop k hk)
      by_cases hlt : k < N
      · obtain ⟨b', off', e, hbl, hat⟩ := SlI.cells HS.out (by omega)
        injection e with e; injection e with e1 e2
        subst e1 e2
        have c0 := hat k hlt
        by_cases hx : L.getD k 0 < n
        · have HP' : Hid (∀ j, j < k + 1 → L.getD j 0 < n) := Lib.hid (fun j hj => by
            by_cases e : j = k
            · subst e; exact hx
            · exact HP.out j (by omega))
          have hd : decide (L.getD k 0 < n) = true := decide_eq_true hx
          clear hat HP
          generalize L.getD k 0 = z at *
          go_wp2_with fail
          go_roundw
          case rel => exact ⟨k + 1, by omega, by go_num, trivial, HP'⟩
          case measure => simp [intOf]; omega
        · have hd : decide (L.getD k 0 < n) = false := decide_eq_false hx
          have HA := Lib.hid (HAt.out k hk HP.out (fun _ => by omega))
          by_cases he : L.getD k 0 = n
          · have HF := Lib.hid (HA.out.1 hlt he)
            rw [he] at c0 hd
            have hnn : (n == n) = true := by simp
            clear hat HP HA HAt hx he
            go_wp2_with fail
            go_ret
            exact ⟨_, rfl, Below.refl _ _, .inl ⟨rfl, HF.out⟩⟩
          · have HF := Lib.hid (HA.out.2 (fun _ => he))
            have hnn : (L.getD k 0 == n) = false := by simpa using he
            clear hat HP HA HAt hx he
            generalize L.getD k 0 = z at *
            have hck : ¬ (cap = k) := by omega
            have HTl := HTk.out k (by omega)
            have HT' := Lib.hid (HT.out.below HB1.out)
            go_wp2_with (first
              | (at_builtin; refine wpList_append_sl rfl _ _ rfl wr.heap.size v2 (.slice (some ⟨b, off + k, none⟩) (N - k) (cap - k)) (k + 1) (L.take k ++ [n]) (L.drop k) H2.out rfl rfl (HD.out.below HB2.out) (by omega) HB2.out.size ?_; intro v3 w3 h3 g3; have H3 := Lib.hid h3; have HB3 : Hid (Below wr.heap.size wr w3) := Lib.hid (HB2.out.grown g3 HB2.out.size (fun j hj => (H2.out.lt j hj).1)); clear h3 g3)
              | (at_builtin; refine wpList_append_int rfl _ _ rfl wr.heap.size v1 k (L.take k) n H1.out rfl rfl (by omega) HB11.out.size ?_; intro v2 w2 h2 g2; have H2 : Hid (w2.ownsRow wr.heap.size 3 1 v2 (k + 1) ((L.take k ++ [n]).map (Value.int .i64))) := Lib.hid (by rw [List.map_append]; exact h2); have HB2 : Hid (Below wr.heap.size wr w2) := Lib.hid (HB11.out.grown g2 HB11.out.size (fun j hj => (H1.out.lt j hj).1)); clear h2 g2)
              | (at_builtin; refine wpList_append_sl rfl _ _ rfl wr.heap.size (.slice (some ⟨wr.heap.size, 0, none⟩) 0 0) (.slice (some ⟨b, off, none⟩) k cap) 0 [] (L.take k) HO1.out rfl rfl HT'.out (by omega) HB1.out.size ?_; intro v1 w1 h1 g1; have H1 : Hid (w1.ownsRow wr.heap.size 3 1 v1 k ((L.take k).map (Value.int .i64))) := Lib.hid (by rw [HTl.1, Nat.zero_add] at h1; exact h1); have HB11 : Hid (Below wr.heap.size wr w1) := Lib.hid (HB1.out.grown g1 HB1.out.size (fun j hj => (HO1.out.lt j hj).1)); clear h1 g1))
            go_ret
            refine HEnd.out _ _ ?_ HB3.out
            rw [HF.out]
            have h3 := H3.out
            rw [List.append_assoc] at h3
            have e : (L.take k ++ n :: L.drop k).length = k + 1 + (L.drop k).length := by rw [List.length_append, HTl.1, List.length_cons]; omega
            rw [e]; exact h3
      · obtain rfl : k = N := by omega
        have HF := Lib.hid ((HAt.out k hk HP.out (fun h => absurd h (Nat.lt_irrefl _))).2 (fun h => absurd h (Nat.lt_irrefl _)))
        clear HAt HP
        by_cases hck : cap = k
        · subst hck
          have HD : Hid (SlI wr (.slice (some ⟨b, off, none⟩) 0 0) (L.drop cap)) := Lib.hid (by
            have : L.drop cap = [] := List.drop_eq_nil_of_le (by have := HN.out; omega)
            rw [this]; exact slI_none (Nat.zero_le _))
          have HTl := HTk.out cap (by omega)
          have HT' := Lib.hid (HT.out.below HB1.out)
          go_wp2_with (first
            | (at_builtin; refine wpList_append_sl rfl _ _ rfl wr.heap.size v2 (.slice (some ⟨b, off, none⟩) 0 0) (cap + 1) (L.take cap ++ [n]) (L.drop cap) H2.out rfl rfl (HD.out.below HB2.out) (by omega) HB2.out.size ?_; intro v3 w3 h3 g3; have H3 := Lib.hid h3; have HB3 : Hid (Below wr.heap.size wr w3) := Lib.hid (HB2.out.grown g3 HB2.out.size (fun j hj => (H2.out.lt j hj).1)); clear h3 g3)
            | (at_builtin; refine wpList_append_int rfl _ _ rfl wr.heap.size v1 cap (L.take cap) n H1.out rfl rfl (by omega) HB11.out.size ?_; intro v2 w2 h2 g2; have H2 : Hid (w2.ownsRow wr.heap.size 3 1 v2 (cap + 1) ((L.take cap ++ [n]).map (Value.int .i64))) := Lib.hid (by rw [List.map_append]; exact h2); have HB2 : Hid (Below wr.heap.size wr w2) := Lib.hid (HB11.out.grown g2 HB11.out.size (fun j hj => (H1.out.lt j hj).1)); clear h2 g2)
            | (at_builtin; refine wpList_append_sl rfl _ _ rfl wr.heap.size (.slice (some ⟨wr.heap.size, 0, none⟩) 0 0) (.slice (some ⟨b, off, none⟩) cap cap) 0 [] (L.take cap) HO1.out rfl rfl HT'.out (by omega) HB1.out.size ?_; intro v1 w1 h1 g1; have H1 : Hid (w1.ownsRow wr.heap.size 3 1 v1 cap ((L.take cap).map (Value.int .i64))) := Lib.hid (by rw [HTl.1, Nat.zero_add] at h1; exact h1); have HB11 : Hid (Below wr.heap.size wr w1) := Lib.hid (HB1.out.grown g1 HB1.out.size (fun j hj => (HO1.out.lt j hj).1)); clear h1 g1))
          go_ret
          refine HEnd.out _ _ ?_ HB3.out
          rw [HF.out]
          have h3 := H3.out
          rw [List.append_assoc] at h3
          have e : (L.take cap ++ n :: L.drop cap).length = cap + 1 + (L.drop cap).length := by rw [List.length_append, HTl.1, List.length_cons]; omega
          rw [e]; exact h3
        · have HD : Hid (SlI wr (.slice (some ⟨b, off + k, none⟩) 0 (cap - k)) (L.drop k)) := Lib.hid (by have := HD.out; rwa [Nat.sub_self] at this)
          have HTl := HTk.out k (by omega)
          have HT' := Lib.hid (HT.out.below HB1.out)
          go_wp2_with (first
            | (at_builtin; refine wpList_append_sl rfl _ _ rfl wr.heap.size v2 (.slice (some ⟨b, off + k, none⟩) 0 (cap - k)) (k + 1) (L.take k ++ [n]) (L.drop k) H2.out rfl rfl (HD.out.below HB2.out) (by omega) HB2.out.size ?_; intro v3 w3 h3 g3; have H3 := Lib.hid h3; have HB3 : Hid (Below wr.heap.size wr w3) := Lib.hid (HB2.out.grown g3 HB2.out.size (fun j hj => (H2.out.lt j hj).1)); clear h3 g3)
            | (at_builtin; refine wpList_append_int rfl _ _ rfl wr.heap.size v1 k (L.take k) n H1.out rfl rfl (by omega) HB11.out.size ?_; intro v2 w2 h2 g2; have H2 : Hid (w2.ownsRow wr.heap.size 3 1 v2 (k + 1) ((L.take k ++ [n]).map (Value.int .i64))) := Lib.hid (by rw [List.map_append]; exact h2); have HB2 : Hid (Below wr.heap.size wr w2) := Lib.hid (HB11.out.grown g2 HB11.out.size (fun j hj => (H1.out.lt j hj).1)); clear h2 g2)
            | (at_builtin; refine wpList_append_sl rfl _ _ rfl wr.heap.size (.slice (some ⟨wr.heap.size, 0, none⟩) 0 0) (.slice (some ⟨b, off, none⟩) k cap) 0 [] (L.take k) HO1.out rfl rfl HT'.out (by omega) HB1.out.size ?_; intro v1 w1 h1 g1; have H1 : Hid (w1.ownsRow wr.heap.size 3 1 v1 k ((L.take k).map (Value.int .i64))) := Lib.hid (by rw [HTl.1, Nat.zero_add] at h1; exact h1); have HB11 : Hid (Below wr.heap.size wr w1) := Lib.hid (HB1.out.grown g1 HB1.out.size (fun j hj => (HO1.out.lt j hj).1)); clear h1 g1))
          go_ret
          refine HEnd.out _ _ ?_ HB3.out
          rw [HF.out]
          have h3 := H3.out
          rw [List.append_assoc] at h3
          have e : (L.take k ++ n :: L.drop k).length = k + 1 + (L.drop k).length := by rw [List.length_append, HTl.1, List.length_cons]; omega
          rw [e]; exact h3
end Go.Proofs.YtflnbpiegcepcaaDoor

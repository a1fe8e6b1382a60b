/- Flattening, in the program. -/
import Derived.Test.YtdloeiaaokhniaaFmVal
namespace Go.Proofs.Ytdloeiaaokhniaa
open Go.RowKit
open FL
set_option maxHeartbeats 2000000
set_option maxRecDepth 100000
set_option linter.unusedVariables false

theorem row_same {T : TypeId} {B m n : Nat} {w w' : World} {v : Value} {xs : List Value} (h : w.ownsRow B T m v n xs) (hs : ∀ k, v.ownBlock = some k → w'.heap[k]? = w.heap[k]?) : w'.ownsRow B T m v n xs := by
  refine ⟨h.1, ?_⟩
  rcases h.2 with h0 | ⟨g, cap, cur, rfl, h1, h2, h3⟩
  · exact .inl h0
  · exact .inr ⟨g, cap, cur, rfl, h1, by rw [hs g rfl]; exact h2, h3⟩
theorem row_shape {T : TypeId} {B m n : Nat} {w : World} {v : Value} {xs : List Value} (h : w.ownsRow B T m v n xs) : ∃ a c, v = .slice a n c := by
  rcases h.2 with ⟨rfl, rfl⟩ | ⟨g, cap, cur, rfl, _⟩
  · exact ⟨none, 0, rfl⟩
  · exact ⟨_, cap, rfl⟩
theorem oneCells5 (k a b c : Int) (ad : Option Addr) (n cap : Nat) : ∀ u ∈ ([.int .i64 k, .int .i64 a, .int .i64 b, .int .i64 c, .slice ad n cap] : List Value), u.oneCell' = true := by
  intro u hu
  simp only [List.mem_cons, List.not_mem_nil, or_false] at hu
  rcases hu with rfl | rfl | rfl | rfl | rfl <;> rfl
/-- The literal slice of one formula. -/
theorem new_one (w : World) (v0 v1 v2 v3 v4 : Value) (T : TypeId) : ∀ j u, [v0, v1, v2, v3, v4][j]? = some u → (w.alloc (.cells #[v0, v1, v2, v3, v4] T)).cell? ((⟨w.heap.size, 0, none⟩ : Addr).add j) = some u := by
  intro j u hj
  have e : (⟨w.heap.size, 0, none⟩ : Addr).add j = ⟨w.heap.size, j, none⟩ := by simp [Addr.add]; omega
  rw [e]
  have F := (Five.new T w v0 v1 v2 v3 v4).cells
  match j, hj with
  | 0, hj => simp at hj; subst hj; exact F.1
  | 1, hj => simp at hj; subst hj; exact F.2.1
  | 2, hj => simp at hj; subst hj; exact F.2.2.1
  | 3, hj => simp at hj; subst hj; exact F.2.2.2.1
  | 4, hj => simp at hj; subst hj; exact F.2.2.2.2
  | j + 5, hj => simp at hj

/-- The kids made so far: a row of the call's own, nil while there are none. -/
structure Made (lo : Nat) (w : World) (v : Value) (P : FL) (C : List Value) : Prop where
  row : w.ownsRow lo 32 5 v P.len C
  kids : OwnL lo w.heap.size w P C v.ownBlock
  nil0 : P.len = 0 → v = .slice none 0 0
theorem Made.start (lo : Nat) (w : World) : Made lo w (.slice none 0 0) nil [] := ⟨⟨rfl, .inl ⟨rfl, rfl⟩⟩, OwnL.empty _ _ _, fun _ => rfl⟩
theorem Made.below {lo : Nat} {w w' : World} {v : Value} {P : FL} {C : List Value} (h : Made lo w v P C) (hb : Below w.heap.size w w') : Made lo w' v P C :=
  ⟨row_same h.row (fun k hk => hb.block k (h.row.lt k hk).2), (h.kids.below hb).mono (Nat.le_refl _) hb.size (Nat.le_refl _), h.nil0⟩
/-- A store beside the row. -/
theorem Made.aside {lo b o : Nat} {w : World} {v u : Value} {P : FL} {C : List Value} (h : Made lo w v P C) (hb : b < lo) : Made lo (w.setCell ⟨b, o, none⟩ u) v P C := by
  have hz : (w.setCell ⟨b, o, none⟩ u).heap.size = w.heap.size := by simp [World.setCell]
  refine ⟨row_same h.row (fun k hk => Below.heap_setCell _ _ _ _ (by have := (h.row.lt k hk).1; simp only; omega)), ?_, h.nil0⟩
  rw [hz]
  exact h.kids.of_same (Nat.le_of_eq hz.symm) (fun k h1 _ _ => Below.heap_setCell _ _ _ _ (by simp only; omega))
/-- One kid more. -/
theorem Made.snoc {lo m : Nat} {w w' : World} {v v' u : Value} {P g : FL} {C : List Value} {k a b c : Int} (h : Made lo w v P C) (ho : OwnFm m w.heap.size w u g) (hlo : OwnL lo m w P C v.ownBlock) (hm : lo ≤ m) (hmw : m ≤ w.heap.size) (hx : ∀ j, v.ownBlock = some j → j < m)
    (hr : w'.ownsRow lo 32 5 v' (P.len + 1) (C ++ [.int .i64 k, .int .i64 a, .int .i64 b, .int .i64 c, u])) (hg : w.grownBy w' v.ownBlock) (hk : ∀ j, v'.ownBlock = some j → v.ownBlock = some j ∨ w.heap.size ≤ j) :
    Made lo w' v' (P.app (cons k a b c g nil)) (C ++ [.int .i64 k, .int .i64 a, .int .i64 b, .int .i64 c, u]) := by
  refine ⟨by rw [len_app]; exact hr, ?_, fun e => by rw [len_app] at e; simp [FL.len] at e⟩
  exact ((hlo.snoc (k := k) (a := a) (b := b) (c := c) ho hm hmw hx).grown hg hk).mono (Nat.le_refl _) hg.size (Nat.le_refl _)
theorem Made.own {lo : Nat} {w : World} {v : Value} {P : FL} {C : List Value} (h : Made lo w v P C) : OwnFm lo w.heap.size w v P := OwnFm.of_row h.row rfl h.kids (Nat.le_refl _)

def FaOk (g : FL) : Prop := ∀ (k a b c : Int) (v : Value) (w : World), Kids AllS w v g → g.sz ≤ 1048576 →
  Calls Try.prog 46 #[fmV k a b c v] w fun e w' => ∃ u, e = .returned (fmV k a b c u) ∧ OwnFm w.heap.size w'.heap.size w' u (flatM (decide (k = 2)) g) ∧ ((flatM (decide (k = 2)) g).len = 0 → u = .slice none 0 0) ∧ Below w.heap.size w w'
theorem flat_cons (row : Bool) (k a b c : Int) (f r : FL) : flatM row (cons k a b c f r) = if row && decide (k = 2) then (flatM (decide (k = 2)) f).app (flatM row r) else cons k a b c (flatM (decide (k = 2)) f) (flatM row r) := rfl

theorem fa_any (g : FL) (IH : ∀ g' : FL, g'.sz < g.sz → FaOk g') : FaOk g := by
  intro k a b c v w h hsz
  obtain ⟨ad, cap, rfl, hlc, hm, hcell⟩ := h.cells
  have HCe := Lib.hid hcell
  have HI := Lib.hid IH
  have HN : Hid (FL.drop g.len g = FL.nil) := Lib.hid (FL.drop_end g)
  have HAt := Lib.hid (fun j (h : j < g.len) => FL.drop_at j g h)
  have HSz := Lib.hid (fun j => sz_drop j g)
  have hfs := flatM_sz g (decide (k = 2))
  have HFl : Hid ((flatM (decide (k = 2)) g).len ≤ 1048576) := Lib.hid (by have := len_le_sz (flatM (decide (k = 2)) g); omega)
  clear h hcell IH hfs
  unfold maxLen at hm
  have HA : Hid (Below w.heap.size w (((w.alloc (.cells #[.int .i64 k, .int .i64 a, .int .i64 b, .int .i64 c, .slice ad g.len cap] 32)).alloc (.cells #[.int .i64 0, .int .i64 0, .int .i64 0, .int .i64 0, .slice none 0 0] 32)).alloc (.cells #[.int .i64 k, .int .i64 a, .int .i64 b, .int .i64 c, .slice none 0 0] 32))) := Lib.hid ((((Below.refl _ _).alloc (Nat.le_refl _) _).alloc (by simp) _).alloc (by simp; omega) _)
  have T1 := Lib.hid ((Five.new 32 (w.alloc (.cells #[.int .i64 k, .int .i64 a, .int .i64 b, .int .i64 c, .slice ad g.len cap] 32)) (.int .i64 0) (.int .i64 0) (.int .i64 0) (.int .i64 0) (.slice none 0 0)).alloc (.cells #[.int .i64 k, .int .i64 a, .int .i64 b, .int .i64 c, .slice none 0 0] 32))
  have F0 := Lib.hid (((Five.new 32 w (.int .i64 k) (.int .i64 a) (.int .i64 b) (.int .i64 c) (.slice ad g.len cap)).alloc (.cells #[.int .i64 0, .int .i64 0, .int .i64 0, .int .i64 0, .slice none 0 0] 32)).alloc (.cells #[.int .i64 k, .int .i64 a, .int .i64 b, .int .i64 c, .slice none 0 0] 32))
  have O2 := Lib.hid (Five.new 32 ((w.alloc (.cells #[.int .i64 k, .int .i64 a, .int .i64 b, .int .i64 c, .slice ad g.len cap] 32)).alloc (.cells #[.int .i64 0, .int .i64 0, .int .i64 0, .int .i64 0, .slice none 0 0] 32)) (.int .i64 k) (.int .i64 a) (.int .i64 b) (.int .i64 c) (.slice none 0 0))
  have hZ : Hid (w.heap.size + 1 + 1 + 1 = (((w.alloc (.cells #[.int .i64 k, .int .i64 a, .int .i64 b, .int .i64 c, .slice ad g.len cap] 32)).alloc (.cells #[.int .i64 0, .int .i64 0, .int .i64 0, .int .i64 0, .slice none 0 0] 32)).alloc (.cells #[.int .i64 k, .int .i64 a, .int .i64 b, .int .i64 c, .slice none 0 0] 32)).heap.size) := Lib.hid (by simp)
  simp only [alloc_sz] at T1 O2
  unfold fmV
  generalize hg : g.len = n at *
  have HL := Lib.hid hg
  clear hg
  go_enter Try.func46, Try.ntmps46
  go_wp2_with fail
  generalize ((w.alloc (.cells #[.int .i64 k, .int .i64 a, .int .i64 b, .int .i64 c, .slice ad n cap] 32)).alloc (.cells #[.int .i64 0, .int .i64 0, .int .i64 0, .int .i64 0, .slice none 0 0] 32)).alloc (.cells #[.int .i64 k, .int .i64 a, .int .i64 b, .int .i64 c, .slice none 0 0] 32) = W at *
  go_loopw [5, 6, 15] (fun _ _ i wr => ∃ j : Nat, j ≤ n ∧ i = .int .i64 j ∧ Hid (Below w.heap.size w wr) ∧ Hid (w.heap.size + 1 + 1 + 1 ≤ wr.heap.size) ∧ Hid (Five 32 wr w.heap.size (.int .i64 k) (.int .i64 a) (.int .i64 b) (.int .i64 c) (.slice ad n cap)) ∧ Hid (Five 32 wr (w.heap.size + 1) (.int .i64 0) (.int .i64 0) (.int .i64 0) (.int .i64 0) (.slice none 0 0)) ∧ Hid (∃ (P : FL) (C : List Value) (vo : Value), flatM (decide (k = 2)) g = P.app (flatM (decide (k = 2)) (FL.drop j g)) ∧ Five 32 wr (w.heap.size + 1 + 1) (.int .i64 k) (.int .i64 a) (.int .i64 b) (.int .i64 c) vo ∧ Made (w.heap.size + 1 + 1 + 1) wr vo P C)) (fun _ _ i _ => n - (intOf i).toNat)
  case atStart => exact ⟨0, by omega, rfl, HA, Lib.hid (Nat.le_of_eq hZ.out), F0, T1, Lib.hid ⟨nil, [], _, rfl, O2.out, Made.start _ _⟩⟩
  case round =>
    clear O2 HA T1 F0 hZ
    obtain ⟨j, hj, rfl, HB, hs, HF, HT, HM⟩ := hrel
    by_cases hlt : j < n
    · obtain ⟨b', off, rfl, _, hb, hat⟩ := HCe.out (by omega)
      obtain ⟨k', x1, x2, x3, f, r, hd1, hd2⟩ := HAt.out j hlt
      obtain ⟨u, c0, c1, c2, c3, c4, hkk⟩ := hat j k' x1 x2 x3 f r hd1
      rw [← (bcell HB.out).1 _ _ hb] at c0 c1 c2 c3 c4
      have hfz := sz_kid hd1
      have HS := Lib.hid (fun (w' : World) (hb' : Below w.heap.size w w') => HI.out f (sz_kid hd1) k' x1 x2 x3 u w' (hkk.below hb') (by omega))
      obtain ⟨ad', cap', rfl, _⟩ := hkk.cells
      have HD := Lib.hid (And.intro hd1 hd2)
      have hff := flatM_sz f (decide (k' = 2))
      have hfl : (flatM (decide (k' = 2)) f).len ≤ 1000000 + 48576 := by have := len_le_sz (flatM (decide (k' = 2)) f); omega
      have b7 : Below wr.heap.size wr (wr.alloc (.cells #[.int .i64 k', .int .i64 x1, .int .i64 x2, .int .i64 x3, .slice ad' f.len cap'] 32)) := (Below.refl _ _).alloc (Nat.le_refl _) _
      have HB7 := Lib.hid (HB.out.trans (b7.mono HB.out.size))
      clear hat hkk hd1 hd2 hff
      unfold fmV at HS
      go_wp2_with fail
      refine (HS.out _ HB7.out).mono ?_
      rintro e w3 ⟨u, rfl, ou, hnil, b3⟩
      have hsz7 := b7.size
      have hM1 : wr.heap.size ≤ (wr.alloc (.cells #[.int .i64 k', .int .i64 x1, .int .i64 x2, .int .i64 x3, .slice ad' f.len cap'] 32)).heap.size := b7.size
      have hM2 := b3.size
      have b37 := b7.trans (b3.mono b7.size)
      obtain ⟨au, cu, rfl, hcu⟩ := ou.shape
      have ba : Below w3.heap.size w3 (w3.alloc (.cells #[.int .i64 k', .int .i64 x1, .int .i64 x2, .int .i64 x3, .slice au (flatM (decide (k' = 2)) f).len cu] 32)) := (Below.refl _ _).alloc (Nat.le_refl _) _
      have b4 := b37.trans (ba.mono b37.size)
      have HB4 := Lib.hid (HB.out.trans (b4.mono HB.out.size))
      have HF4 := Lib.hid (HF.out.below b4)
      have HT4 := Lib.hid (HT.out.below b4)
      have hs4 := Lib.hid (Nat.le_trans hs.out b4.size)
      have HU4 := Lib.hid ((ou.below ba).mono (Nat.le_refl _) ba.size (Nat.le_refl _))
      obtain ⟨P, C, vo, hP, hO, hMd⟩ := HM.out
      have HO4 := Lib.hid (hO.below b4)
      have F3 := Lib.hid (HF.out.below b37)
      have O3 := Lib.hid (hO.below b37)
      have HM4 := Lib.hid (hMd.below b4)
      have HL4 := Lib.hid ((hMd.kids.mono (Nat.le_refl _) (Nat.le_refl _) (Nat.le_refl _)).below b4)
      have hM2 : (wr.alloc (.cells #[.int .i64 k', .int .i64 x1, .int .i64 x2, .int .i64 x3, .slice ad' f.len cap'] 32)).heap.size ≤ (w3.alloc (.cells #[.int .i64 k', .int .i64 x1, .int .i64 x2, .int .i64 x3, .slice au (flatM (decide (k' = 2)) f).len cu] 32)).heap.size := Nat.le_trans hM2 ba.size
      have HV4 : Hid (∀ i, vo.ownBlock = some i → i < wr.heap.size) := Lib.hid (fun i hi => (hMd.row.lt i hi).2)
      obtain ⟨avo, cvo, rfl⟩ := row_shape hMd.row
      rw [HD.out.1, flat_cons] at hP
      have hPt : (flatM (decide (k = 2)) g).len ≤ 1048576 := HFl.out
      have hlo := hs.out
      clear b7 HB7 b3 b37 HB HF HT c0 c1 c2 c3 c4 HS ou b4 ba HM hO hMd
      obtain ⟨s0, s1, s2, s3, s4⟩ := F3.out.cells
      obtain ⟨o0, o1, o2, o3, o4⟩ := O3.out.cells
      obtain ⟨y0, y1, y2, y3, y4⟩ := O3.out.free
      have hw0 : w.heap.size < w3.heap.size := F3.out.lt
      have hw2 : w.heap.size + 1 + 1 < w3.heap.size := O3.out.lt
      generalize hR : flatM (decide (k' = 2)) f = R at *
      by_cases hkk : k = 2 ∧ k' = 2
      · have e2 : (k == 2) = true := by rw [beq_iff_eq]; exact hkk.1
        have e2' : (k' == 2) = true := by rw [beq_iff_eq]; exact hkk.2
        have dk : decide (k = 2) = true := decide_eq_true hkk.1
        have dk' : decide (k' = 2) = true := decide_eq_true hkk.2
        have HPn : Hid (flatM (decide (k = 2)) g = (P.app R).app (flatM (decide (k = 2)) r)) := Lib.hid (by rw [hP, dk, dk', Bool.and_true, if_pos rfl, app_assoc])
        have hPl : P.len + R.len ≤ 1048576 := by
          have e := hPt
          rw [HPn.out, len_app, len_app] at e
          omega
        clear hP dk dk' hkk hPt
        by_cases hz : R.len = 0
        · have hun := hnil hz
          have hRn : R = nil := by
            have := FL.drop_end R
            rw [hz] at this
            exact this
          have HPn : Hid (flatM (decide (k = 2)) g = P.app (flatM (decide (k = 2)) (FL.drop (j + 1) g))) := Lib.hid (by rw [HPn.out, HD.out.2, hRn, app_nil])
          injection hun with hu1 hu2 hu3
          subst hu1 hu3
          obtain ⟨i0, hi0, hz0, hz1, hz2⟩ := info_parts fmInfo
          rw [hz] at HM4 HO4 HF4 HT4 HB4 hs4 ⊢
          clear hz hRn hnil hu2 hz0 hz2 HU4
          go_wp2_with (at_builtin; go_must (refine wpList_append_own_none rfl _ _ 30 rfl (w.heap.size + 1 + 1 + 1) 32 i0 5 Try.underlying30 hi0 _ P.len C rfl HM4.out.row rfl ?_))
          have HO6 := Lib.hid (HO4.out.set4 (.slice avo P.len cvo))
          have HF6 := Lib.hid (HF4.out.aside (c := w.heap.size + 1 + 1) (o := 4) (by omega) (.slice avo P.len cvo))
          have HT6 := Lib.hid (HT4.out.aside (c := w.heap.size + 1 + 1) (o := 4) (by omega) (.slice avo P.len cvo))
          have HM6 := Lib.hid (HM4.out.aside (b := w.heap.size + 1 + 1) (o := 4) (u := .slice avo P.len cvo) (by omega))
          have HB6 := Lib.hid (HB4.out.setCell (p := ⟨w.heap.size + 1 + 1, 4, none⟩) (by simp only; omega) (.slice avo P.len cvo))
          have hs6 : Hid (w.heap.size + 1 + 1 + 1 ≤ ((w3.alloc (.cells #[.int .i64 k', .int .i64 x1, .int .i64 x2, .int .i64 x3, .slice none 0 0] 32)).setCell ⟨w.heap.size + 1 + 1, 4, none⟩ (.slice avo P.len cvo)).heap.size) := Lib.hid (by have := hs4.out; simpa [World.setCell] using this)
          have hc : ∀ o, (w3.alloc (.cells #[.int .i64 k', .int .i64 x1, .int .i64 x2, .int .i64 x3, .slice none 0 0] 32)).setCell ⟨w.heap.size + 1 + 1, 4, none⟩ o = (w3.setCell ⟨w.heap.size + 1 + 1, 4, none⟩ o).alloc (.cells #[.int .i64 k', .int .i64 x1, .int .i64 x2, .int .i64 x3, .slice none 0 0] 32) := fun o => by go_simp
          rw [hc] at HO6 HF6 HT6 HM6 HB6 hs6
          clear hc HO4 HF4 HT4 HB4 HM4 hs4
          go_wp2_with fail
          go_roundw
          case rel => exact ⟨j + 1, by omega, by first | rfl | go_num, HB6, hs6, HF6, HT6, Lib.hid ⟨P, C, _, HPn.out, HO6.out, HM6.out⟩⟩
          case measure => simp [intOf]; omega
        · have hMx := (HL4.out.mono (hi' := (wr.alloc (.cells #[.int .i64 k', .int .i64 x1, .int .i64 x2, .int .i64 x3, .slice ad' f.len cap'] 32)).heap.size) (Nat.le_refl _) hM1 hM2)
          obtain ⟨D, ⟨a2, cp2, e, hcell⟩, hDl, hD1, hJ⟩ := hMx.join HU4.out (Nat.le_trans hlo hM1) hM2 (fun i hi => by have := HV4.out i hi; omega)
          injection e with e3 e4 e5
          subst e3 e5
          obtain ⟨b2, off2, rfl, hb2, hc2⟩ := hcell.resolve_left hz
          have hnews : ∀ i u, D[i]? = some u → (w3.alloc (.cells #[.int .i64 k', .int .i64 x1, .int .i64 x2, .int .i64 x3, .slice (some ⟨b2, off2, none⟩) R.len cu] 32)).cell? ((⟨b2, off2, none⟩ : Addr).add i) = some u := fun i u hi => by
            have hil : i < R.len * 5 := by
              rcases Nat.lt_or_ge i (R.len * 5) with h | h
              · exact h
              · rw [List.getElem?_eq_none (by omega)] at hi; cases hi
            rw [Go.WideShapes.add_plain, hc2 i hil, hi]
          clear hcell hc2 HU4 hMx HL4
          go_wp2_with (at_builtin; go_must (refine wpList_append_fm rfl _ _ rfl (w.heap.size + 1 + 1 + 1) _ P.len C HM4.out.row rfl ⟨b2, off2, none⟩ R.len cu D rfl hDl hnews hD1 (by omega) (by omega) hs4.out ?_))
          intro v' w5 h4 hg hk
          have HM5 : Hid (Made (w.heap.size + 1 + 1 + 1) w5 v' (P.app R) (C ++ D)) := Lib.hid ⟨by rw [len_app]; exact h4, (hJ.grown hg (fun i hi => by have := hk i hi; simpa using this)).mono (Nat.le_refl _) hg.size (Nat.le_refl _), fun e => by rw [len_app] at e; omega⟩
          obtain ⟨av, cv, rfl⟩ := row_shape h4
          have hne : ∀ i, i < w.heap.size + 1 + 1 + 1 → some i ≠ (Value.slice avo P.len cvo).ownBlock := fun i hi e => by have := (HM4.out.row.lt _ e.symm).1; omega
          have HB5 := Lib.hid (HB4.out.grown hg HB4.out.size (fun i hi => by have := (HM4.out.row.lt i hi).1; omega))
          have HF5 := Lib.hid (HF4.out.same (hg.block _ HF4.out.lt (hne _ (by omega))))
          have HT5 := Lib.hid (HT4.out.same (hg.block _ HT4.out.lt (hne _ (by omega))))
          have HO5 := Lib.hid (HO4.out.same (hg.block _ HO4.out.lt (hne _ (by omega))))
          have hs5 := Lib.hid (Nat.le_trans hs4.out hg.size)
          clear h4 hg hk hne hJ hnews HB4 HF4 HT4 HO4 hs4 HM4 hDl hD1 o0 o1 o2 o3 o4 y0 y1 y2 y3 y4 s0 s1 s2 s3 s4
          obtain ⟨o0, o1, o2, o3, o4⟩ := HO5.out.cells
          obtain ⟨y0, y1, y2, y3, y4⟩ := HO5.out.free
          have HO6 := Lib.hid (HO5.out.set4 (.slice av (P.len + R.len) cv))
          have HF6 := Lib.hid (HF5.out.aside (c := w.heap.size + 1 + 1) (o := 4) (by omega) (.slice av (P.len + R.len) cv))
          have HT6 := Lib.hid (HT5.out.aside (c := w.heap.size + 1 + 1) (o := 4) (by omega) (.slice av (P.len + R.len) cv))
          have HM6 := Lib.hid (HM5.out.aside (b := w.heap.size + 1 + 1) (o := 4) (u := .slice av (P.len + R.len) cv) (by omega))
          have HB6 := Lib.hid (HB5.out.setCell (p := ⟨w.heap.size + 1 + 1, 4, none⟩) (by simp only; omega) (.slice av (P.len + R.len) cv))
          have hs6 : Hid (w.heap.size + 1 + 1 + 1 ≤ (w5.setCell ⟨w.heap.size + 1 + 1, 4, none⟩ (.slice av (P.len + R.len) cv)).heap.size) := Lib.hid (by have := hs5.out; simpa [World.setCell] using this)
          have HPq := Lib.hid (HPn.out.trans (by rw [← HD.out.2] : (P.app R).app (flatM (decide (k = 2)) r) = (P.app R).app (flatM (decide (k = 2)) (FL.drop (j + 1) g))))
          clear HB5 HF5 HT5 HO5 hs5 HM5
          go_wp2_with fail
          go_roundw
          case rel => exact ⟨j + 1, by omega, by first | rfl | go_num, HB6, hs6, HF6, HT6, Lib.hid ⟨P.app R, _, _, HPq.out, HO6.out, HM6.out⟩⟩
          case measure => simp [intOf]; omega
      · have HPn : Hid (flatM (decide (k = 2)) g = (P.app (cons k' x1 x2 x3 R nil)).app (flatM (decide (k = 2)) (FL.drop (j + 1) g))) := Lib.hid (by
          rw [hP, HD.out.2, app_assoc]
          have : (decide (k = 2) && decide (k' = 2)) = false := by
            rw [Bool.and_eq_false_iff, decide_eq_false_iff_not, decide_eq_false_iff_not]; omega
          rw [this]; rfl)
        have hPl : P.len + 1 ≤ 1048576 := by
          have e := hPt
          rw [HPn.out, len_app, len_app, FL.len, FL.len] at e
          omega
        have eg : (k == 2) = false ∨ ((k == 2) = true ∧ (k' == 2) = false) := by
          by_cases h2 : k = 2
          · exact .inr ⟨by rw [beq_iff_eq]; exact h2, by rw [beq_eq_false_iff_ne]; omega⟩
          · exact .inl (by rw [beq_eq_false_iff_ne]; exact h2)
        clear hP hkk hPt
        generalize hMM : (wr.alloc (.cells #[.int .i64 k', .int .i64 x1, .int .i64 x2, .int .i64 x3, .slice ad' f.len cap'] 32)).heap.size = MM at *
        generalize hRl : R.len = rl at *
        have bb : Below (w3.alloc (.cells #[.int .i64 k', .int .i64 x1, .int .i64 x2, .int .i64 x3, .slice au rl cu] 32)).heap.size (w3.alloc (.cells #[.int .i64 k', .int .i64 x1, .int .i64 x2, .int .i64 x3, .slice au rl cu] 32)) ((w3.alloc (.cells #[.int .i64 k', .int .i64 x1, .int .i64 x2, .int .i64 x3, .slice au rl cu] 32)).alloc (.cells #[.int .i64 k', .int .i64 x1, .int .i64 x2, .int .i64 x3, .slice au rl cu] 32)) := (Below.refl _ _).alloc (Nat.le_refl _) _
        have HB5 := Lib.hid (HB4.out.trans (bb.mono HB4.out.size))
        have HF5 := Lib.hid (HF4.out.below bb)
        have HT5 := Lib.hid (HT4.out.below bb)
        have HO5 := Lib.hid (HO4.out.below bb)
        have HM5 := Lib.hid (HM4.out.below bb)
        have hs5 := Lib.hid (Nat.le_trans hs4.out bb.size)
        have HU5 := Lib.hid ((HU4.out.below bb).mono (Nat.le_refl _) bb.size (Nat.le_refl _))
        have HL5 := Lib.hid ((HL4.out.mono (hi' := MM) (Nat.le_refl _) hM1 hM2).below bb)
        have hM5 := Lib.hid (Nat.le_trans hM2 bb.size)
        have hMlo : Hid (w.heap.size + 1 + 1 + 1 ≤ MM) := Lib.hid (Nat.le_trans hlo hM1)
        have hVM : Hid (∀ i, (Value.slice avo P.len cvo).ownBlock = some i → i < MM) := Lib.hid (fun i hi => by have := HV4.out i hi; omega)
        have hnews := Lib.hid (new_one (w3.alloc (.cells #[.int .i64 k', .int .i64 x1, .int .i64 x2, .int .i64 x3, .slice au rl cu] 32)) (.int .i64 k') (.int .i64 x1) (.int .i64 x2) (.int .i64 x3) (.slice au rl cu) 32)
        have h1c := Lib.hid (oneCells5 k' x1 x2 x3 au rl cu)
        clear bb HB4 HF4 HT4 HO4 HM4 hs4 HU4 HL4 hM1 hM2 hlo HV4 hMM
        rcases eg with e2 | ⟨e2, e2'⟩
        all_goals
          go_wp2_with (at_builtin; go_must (refine wpList_append_fm rfl _ _ rfl (w.heap.size + 1 + 1 + 1) _ P.len C HM5.out.row rfl ⟨(w3.alloc (.cells #[.int .i64 k', .int .i64 x1, .int .i64 x2, .int .i64 x3, .slice au rl cu] 32)).heap.size, 0, none⟩ 1 1 [.int .i64 k', .int .i64 x1, .int .i64 x2, .int .i64 x3, .slice au rl cu] (by simp [go_sem]) rfl hnews.out h1c.out (by omega) (by omega) hs5.out ?_))
          intro v' w5 h4 hg hk
          have HM6 : Hid (Made (w.heap.size + 1 + 1 + 1) w5 v' (P.app (cons k' x1 x2 x3 R nil)) (C ++ [.int .i64 k', .int .i64 x1, .int .i64 x2, .int .i64 x3, .slice au rl cu])) := Lib.hid (by
            exact Made.snoc HM5.out HU5.out HL5.out hMlo.out hM5.out hVM.out h4 hg (fun i hi => by have := hk i hi; simpa using this))
          obtain ⟨av, cv, rfl⟩ := row_shape h4
          have hne : ∀ i, i < w.heap.size + 1 + 1 + 1 → some i ≠ (Value.slice avo P.len cvo).ownBlock := fun i hi e => by have := (HM5.out.row.lt _ e.symm).1; omega
          have HB6 := Lib.hid (HB5.out.grown hg HB5.out.size (fun i hi => by have := (HM5.out.row.lt i hi).1; omega))
          have HF6 := Lib.hid (HF5.out.same (hg.block _ HF5.out.lt (hne _ (by omega))))
          have HT6 := Lib.hid (HT5.out.same (hg.block _ HT5.out.lt (hne _ (by omega))))
          have HO6 := Lib.hid (HO5.out.same (hg.block _ HO5.out.lt (hne _ (by omega))))
          have hs6 := Lib.hid (Nat.le_trans hs5.out hg.size)
          clear h4 hg hk hne hnews h1c HB5 HF5 HT5 HO5 hs5 HM5 HU5 HL5 hM5 hMlo hVM o0 o1 o2 o3 o4 y0 y1 y2 y3 y4 s0 s1 s2 s3 s4
          obtain ⟨o0, o1, o2, o3, o4⟩ := HO6.out.cells
          obtain ⟨y0, y1, y2, y3, y4⟩ := HO6.out.free
          have HO7 := Lib.hid (HO6.out.set4 (.slice av (P.len + 1) cv))
          have HF7 := Lib.hid (HF6.out.aside (c := w.heap.size + 1 + 1) (o := 4) (by omega) (.slice av (P.len + 1) cv))
          have HT7 := Lib.hid (HT6.out.aside (c := w.heap.size + 1 + 1) (o := 4) (by omega) (.slice av (P.len + 1) cv))
          have HM7 := Lib.hid (HM6.out.aside (b := w.heap.size + 1 + 1) (o := 4) (u := .slice av (P.len + 1) cv) (by omega))
          have HB7 := Lib.hid (HB6.out.setCell (p := ⟨w.heap.size + 1 + 1, 4, none⟩) (by simp only; omega) (.slice av (P.len + 1) cv))
          have hs7 : Hid (w.heap.size + 1 + 1 + 1 ≤ (w5.setCell ⟨w.heap.size + 1 + 1, 4, none⟩ (.slice av (P.len + 1) cv)).heap.size) := Lib.hid (by have := hs6.out; simpa [World.setCell] using this)
          clear HB6 HF6 HT6 HO6 hs6 HM6
          go_wp2_with fail
          go_roundw
          case rel => exact ⟨j + 1, by omega, by first | rfl | go_num, HB7, hs7, HF7, HT7, Lib.hid ⟨_, _, _, HPn.out, HO7.out, HM7.out⟩⟩
          case measure => simp [intOf]; omega
    · obtain rfl : j = n := by omega
      obtain ⟨P, C, vo, hP, hO, hMd⟩ := HM.out
      rw [HN.out] at hP
      have hP : Hid (flatM (decide (k = 2)) g = P) := Lib.hid (by rw [hP]; exact app_nil P)
      have hlo := hs.out
      obtain ⟨avo, cvo, rfl⟩ := row_shape hMd.row
      obtain ⟨o0, o1, o2, o3, o4⟩ := hO.cells
      obtain ⟨s0, s1, s2, s3, s4⟩ := HT.out.cells
      obtain ⟨y0, y1, y2, y3, y4⟩ := HT.out.free
      have HU := Lib.hid (((((HT.out.set0 (.int .i64 k)).set1 (.int .i64 a)).set2 (.int .i64 b)).set3 (.int .i64 c)).set4 (.slice avo P.len cvo)).cells
      have HM6 := Lib.hid (((((hMd.aside (b := w.heap.size + 1) (o := 0) (u := .int .i64 k) (by omega)).aside (b := w.heap.size + 1) (o := 1) (u := .int .i64 a) (by omega)).aside (b := w.heap.size + 1) (o := 2) (u := .int .i64 b) (by omega)).aside (b := w.heap.size + 1) (o := 3) (u := .int .i64 c) (by omega)).aside (b := w.heap.size + 1) (o := 4) (u := .slice avo P.len cvo) (by omega))
      have HB6 := Lib.hid (((((HB.out.setCell (p := ⟨w.heap.size + 1, 0, none⟩) (by simp only; omega) (.int .i64 k)).setCell (p := ⟨w.heap.size + 1, 1, none⟩) (by simp only; omega) (.int .i64 a)).setCell (p := ⟨w.heap.size + 1, 2, none⟩) (by simp only; omega) (.int .i64 b)).setCell (p := ⟨w.heap.size + 1, 3, none⟩) (by simp only; omega) (.int .i64 c)).setCell (p := ⟨w.heap.size + 1, 4, none⟩) (by simp only; omega) (.slice avo P.len cvo))
      clear hO hMd HB HT HF HM hs
      go_wp2_with fail
      obtain ⟨g0, g1, g2, g3, g4⟩ := HU.out
      refine bodyPost_ret (v := .agg #[.int .i64 k, .int .i64 a, .int .i64 b, .int .i64 c, .slice avo P.len cvo]) (by simp [results, Try.results46, go_sem, g0, g1, g2, g3, g4]) rfl ⟨_, rfl, ?_, ?_, HB6.out⟩
      · rw [hP.out]
        exact HM6.out.own.mono (by omega) (Nat.le_refl _) (Nat.le_refl _)
      · rw [hP.out]
        exact HM6.out.nil0
theorem faOk_all : ∀ (n : Nat) (g : FL), g.sz < n → FaOk g := by
  intro n
  induction n with
  | zero => intro g h; omega
  | succ n ih => intro g h; exact fa_any g (fun g' h' => ih g' (by omega))
end Go.Proofs.Ytdloeiaaokhniaa

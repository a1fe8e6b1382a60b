/- Drawn mentions. -/
import Derived.Test.YtflnbpiegcepcaaIdxMenL
import Derived.Test.YtflnbpiegcepcaaDrawCols2
import Derived.Test.YtflnbpiegcepcaaMutate
namespace Go.Proofs.Ytflnbpiegcepcaa
open Go.RowKit
set_option maxHeartbeats 2000000
set_option maxRecDepth 100000
set_option linter.unusedVariables false

/-- One mention appended to a row of the call's own. -/
theorem wpList_append_men {ops : Array Oper} {rest : List Oper} {o : Oper} {a : Act} {Q : Exit → Act → World → Prop} {w : World} (H : Nat) (hH : w.heap.size = H) (hgd : o.guard = none) (s x : Operand)
    (ho : o.op = .call { callee := .builtin .append, args := #[s, x], argTypes := #[23, 23] }) (B : Nat) (v : Value) (M : List Men) (z : ByteArray) (y : Int)
    (hown : w.ownsRow B 28 2 v M.length (mC M)) (hs : a.eval s = v) (hx : a.eval x = .slice (some ⟨H, 0, none⟩) 1 1) (h63 : M.length ≤ 1000000) (hbase : B ≤ w.heap.size)
    (h : ∀ v' w', w'.ownsRow B 28 2 v' (M.length + 1) (mC (M ++ [(z, y)])) → w.grownBy w' v.ownBlock → wpList Try.prog ops Q rest (a.put o.dst v') w') :
    wpList Try.prog ops Q (o :: rest) a (w.alloc (.cells #[.string z, .int .i64 y] 28)) := by
  subst hH
  obtain ⟨i0, hi, hz0, hz1, hz2⟩ := info_parts menInfo
  refine wpList_append_own _ hgd s x 23 ho B 28 i0 (.agg #[.string ⟨#[]⟩, .int .i64 0]) 2 24 Try.underlying23 hi hz0 hz1 hz2 rfl (by decide) v M.length _ hs (hown.alloc _) ⟨w.heap.size, 0, none⟩ 1 1 [.string z, .int .i64 y] hx rfl ?_ (by intro u hu; simp at hu; rcases hu with rfl | rfl <;> rfl) (by unfold maxLen; omega) (by omega) (by simp; omega) ?_
  · intro j u hj
    match j, hj with
    | 0, hj => simp at hj; subst hj; simp [go_sem]
    | 1, hj => simp at hj; subst hj; simp [go_sem]
    | j + 2, hj => simp at hj
  · intro v' w' h1 h2 _
    refine h v' w' (by rw [mC_append]; exact h1) (grownBy_trans (World.grownBy_alloc w _ _) h2)
theorem ownsM_keeps {T : TypeId} {m rb B n : Nat} {w w' : World} {v : Value} {xs : List Value} (h : w.ownsRow B T m v n xs) (hk : Keeps rb w w') (hB : rb < B) : w'.ownsRow B T m v n xs := owns_keeps h hk hB
/-- A short list of mentions, drawn. -/
def DrewM (rb P m : Nat) (w : World) (e : Ending) (w' : World) : Prop := ∃ (v : Value) (M : List Men), M.length ≤ m ∧ (∀ x ∈ M, x.1.size ≤ 10) ∧ e = .returned v ∧ OwnM w.heap.size w'.heap.size w' v M ∧ Rdr w' rb P ∧ Keeps rb w w'

theorem randomMentions_any (rb P : Nat) (w : World) (hP : P ≤ 800000) (hR : Rdr w rb P) :
    Calls Try.prog 19 #[.pointer (some ⟨rb, 0, none⟩)] w (DrewM rb (P + 30) 12 w) := by
  have hrb := hR.lies
  have HO : Hid ((w.alloc (.cells #[] 28)).ownsRow w.heap.size 28 2 (.slice (some ⟨w.heap.size, 0, none⟩) 0 0) 0 (mC [])) :=
    World.ownsRow_lit w #[] 0 (Nat.le_refl _) (Nat.zero_le _) rfl
  have hb2 : Below w.heap.size w (w.alloc (.cells #[] 28)) := (Below.refl _ _).alloc (Nat.le_refl _) _
  have hR2 := hR.below hb2
  have HK2 := Lib.hid (Keeps.of_below hrb hb2)
  clear hb2 hR
  go_enter Try.func19, Try.ntmps19
  go_wp2_with fail
  refine (pick_pos rb P 12 _ (by omega) (by omega) hR2).mono ?_
  rintro e w2 ⟨c, hc, rfl, hR3, hK3⟩
  have HO3 := Lib.hid (ownsM_keeps HO.out hK3 hrb)
  have HK3 := Lib.hid (HK2.out.trans hK3)
  have HR3 := Lib.hid hR3
  clear HO HK2 hK3 hR3 hR2
  go_wp2_with fail
  go_loopw [3, 4] (fun v n wr => ∃ (k : Nat) (M : List Men), n = .int .i64 k ∧ k + M.length ≤ 12 ∧ (∀ x ∈ M, x.1.size ≤ 10) ∧ Hid (Rdr wr rb (P + 1 + 2 * M.length)) ∧ Hid (Keeps rb w wr) ∧ Hid (wr.ownsRow w.heap.size 28 2 v M.length (mC M))) (fun _ n _ => (intOf n).toNat)
  case atStart => exact ⟨c, [], rfl, by simp; omega, by simp, HR3, HK3, HO3⟩
  case round =>
    clear HO3 HK3 HR3 hc
    obtain ⟨k, M, rfl, hkl, hMs, HR, HK, HO⟩ := hrel
    have HMs := Lib.hid hMs
    clear hMs
    by_cases hk : 0 < k
    · have hrw : rb < wr.heap.size := HR.out.lies
      have hlo : w.heap.size ≤ wr.heap.size := HK.out.below.size
      go_wp2_with fail
      refine (of_new rb (P + 1 + 2 * M.length) [⟨#[97]⟩, ⟨#[97, 98]⟩, ⟨#[98]⟩, ⟨#[103, 108, 117, 101]⟩, ⟨#[98, 111, 120]⟩] 5 4 wr rfl (by omega) (by omega) (by omega) HR.out (by decide) _).mono ?_
      rintro e w3 ⟨s, hs, rfl, hR3, hK3⟩
      have HO3 := Lib.hid (ownsM_keeps HO.out hK3 hrb)
      have HK3 := Lib.hid (HK.out.trans hK3)
      have HR3 := Lib.hid hR3
      clear hK3 hR3 HO HK HR
      go_wp2_with fail
      refine (pick_pos rb (P + 1 + 2 * M.length + 1) 8 _ (by omega) (by omega) HR3.out).mono ?_
      rintro e w4 ⟨x, hx, rfl, hR4, hK4⟩
      have HO4 := Lib.hid (ownsM_keeps HO3.out hK4 hrb)
      have HK4 := Lib.hid (HK3.out.trans hK4)
      have HR4 := Lib.hid hR4
      have hlo4 : w.heap.size ≤ w4.heap.size := HK4.out.below.size
      clear hK4 hR4 HO3 HK3 HR3
      go_wp2_with (at_builtin; go_must (refine wpList_append_men w4.heap.size rfl rfl _ _ rfl w.heap.size _ M s (1 + (x : Int)) HO4.out rfl rfl (by omega) hlo4 ?_))
      intro v' w8 hown' hgrow
      have HR8 := Lib.hid (HR4.out.grown hgrow (fun j hj => by have := (HO4.out.lt j hj).1; omega)).1
      have HK8 := Lib.hid (HK4.out.grown hgrow hrb (fun j hj => (HO4.out.lt j hj).1))
      have HO8 : Hid (w8.ownsRow w.heap.size 28 2 v' (M ++ [(s, 1 + (x : Int))]).length (mC (M ++ [(s, 1 + (x : Int))]))) := Lib.hid (by simpa using hown')
      have HSub : Hid ((k : Int) - 1 = ((k - 1 : Nat) : Int)) := Lib.hid (by omega)
      have HS8 : Hid (∀ y ∈ M ++ [(s, 1 + (x : Int))], y.1.size ≤ 10) := Lib.hid (by
        intro y hy
        rcases List.mem_append.1 hy with hy | hy
        · exact HMs.out y hy
        · rw [List.mem_singleton] at hy; subst hy; show s.size ≤ 10; omega)
      clear hown' hgrow HO4 HR4 HK4
      go_wp2_with fail
      rw [HSub.out]
      go_roundw
      case rel => exact ⟨k - 1, M ++ [(s, 1 + (x : Int))], rfl, by simp; omega, HS8.out, Lib.hid (HR8.out.mono (by simp; omega)), HK8, HO8⟩
      case measure => simp [intOf]; omega
    · obtain rfl : k = 0 := by omega
      go_wp2_with fail
      go_ret
      exact ⟨_, M, by omega, HMs.out, rfl, ownC_of HO.out, HR.out.mono (by omega), HK.out⟩

theorem mC_set_ex : ∀ (M : List Men) (s : ByteArray) (p : Int), 0 < M.length → s.size ≤ 10 → (∀ x ∈ M, x.1.size ≤ 10) →
    (∃ M' : List Men, M'.length = M.length ∧ (∀ x ∈ M', x.1.size ≤ 10) ∧ mC M' = (mC M).set 0 (.string s)) ∧ (∃ M' : List Men, M'.length = M.length ∧ (∀ x ∈ M', x.1.size ≤ 10) ∧ mC M' = (mC M).set 1 (.int .i64 p))
  | [], s, p, h, _, _ => by simp at h
  | (a, b) :: r, s, p, _, hs, h => by
    refine ⟨⟨(s, b) :: r, rfl, ?_, rfl⟩, ⟨(a, p) :: r, rfl, ?_, rfl⟩⟩
    · intro x hx
      rcases List.mem_cons.1 hx with rfl | hx
      · exact hs
      · exact h x (List.mem_cons_of_mem _ hx)
    · intro x hx
      rcases List.mem_cons.1 hx with rfl | hx
      · exact h (a, b) (by simp)
      · exact h x (List.mem_cons_of_mem _ hx)
def DrewMen (w : World) (e : Ending) (w' : World) : Prop := ∃ (v : Value) (M : List Men), M.length ≤ 12 ∧ (∀ x ∈ M, x.1.size ≤ 10) ∧ e = .returned v ∧ OwnM w.heap.size w'.heap.size w' v M ∧ Below w.heap.size w w'
theorem drawCollectIndex_any (a : Option Addr) (len cap : Nat) (zs : List Int) (w : World) (h : RowIn .u8 w a len cap zs) :
    Calls Try.prog 6 #[.slice a len cap] w (DrewMen w) := by
  go_enter Try.func6, Try.ntmps6
  go_wp2_with fail
  refine (newReader_any a len cap zs w h).mono ?_
  rintro e w1 ⟨rfl, hR, hb⟩
  have hb1 := Lib.hid hb
  have hw1 : w.heap.size ≤ w1.heap.size := hb.size
  obtain ⟨rb, hrbe⟩ : ∃ rb, w.heap.size = rb := ⟨_, rfl⟩
  rw [hrbe] at hR hb1 hw1
  have hrb := hR.lies
  clear hb h
  go_wp2_with fail
  refine (randomMentions_any rb 0 _ (by omega) hR).mono ?_
  rintro e w2 ⟨v, M, hM, hMs, rfl, o2, hR2, hK2⟩
  have HO := Lib.hid o2
  have HR2 := Lib.hid hR2
  have HK2 := Lib.hid hK2
  have HMs := Lib.hid hMs
  have HEnd : Hid (∀ (v : Value) (M : List Men) (w' : World), M.length ≤ 12 → (∀ x ∈ M, x.1.size ≤ 10) → w'.ownsRow w1.heap.size 28 2 v M.length (mC M) → Keeps rb w1 w' → DrewMen w (.returned v) w') := Lib.hid (by
    intro v M w' h1 h2 h3 h4
    have hB : Below w.heap.size w w' := by rw [hrbe]; exact hb1.out.trans h4.below
    exact ⟨v, M, h1, h2, rfl, (ownC_of h3).mono (by omega) (Nat.le_refl _) (Nat.le_refl _), hB⟩)
  clear hR hR2 hK2 hMs
  by_cases hn : 0 < M.length
  · rcases (OwnC.row o2).2 with ⟨rfl, h0⟩ | ⟨g, cp, cur, rfl, hg1, hg2, hg3, hg4, _⟩
    · omega
    · clear hg2 o2
      have hd : decide ((0 : Int) < (M.length : Int)) = true := decide_eq_true (by omega)
      go_wp2_with fail
      refine (pick_pos rb (0 + 30) 14 _ (by omega) (by omega) HR2.out).mono ?_
      rintro e w3 ⟨x, hx, rfl, hR3, hK3⟩
      have HO3 : Hid (w3.ownsRow w1.heap.size 28 2 (.slice (some ⟨g, 0, none⟩) M.length cp) M.length (mC M)) := Lib.hid (ownsM_keeps (OwnC.row HO.out) hK3 hrb)
      have HK3 := Lib.hid (HK2.out.trans hK3)
      have HR3 := Lib.hid hR3
      clear hK3 hR3 HO HK2 HR2 hd
      by_cases hx0 : x = 0
      · subst hx0
        go_wp2_with fail
        refine (of_new rb (0 + 30 + 1) [⟨#[]⟩, ⟨#[65]⟩, ⟨#[97, 32, 98]⟩] 3 4 w3 rfl (by omega) (by omega) (by omega) HR3.out (by decide) _).mono ?_
        rintro e w4 ⟨s, hs, rfl, hR4, hK4⟩
        have hown := ownsM_keeps HO3.out hK4 hrb
        have HK4 := Lib.hid (HK3.out.trans hK4)
        obtain ⟨o0, ho0⟩ : ∃ u, (mC M)[0]? = some u := ⟨_, List.getElem?_eq_getElem (by rw [mC_len]; omega)⟩
        have c0 : w4.cell? ⟨g, 0, none⟩ = some o0 := (hown.cellAt 0 (by omega)).trans ho0
        have f0 : w4.frozen? ⟨g, 0, none⟩ = false := hown.frozenAt 0
        have HS := Lib.hid (hown.stored 0 (.string s))
        clear hK4 hR4 hown HK3 HR3 HO3 ho0
        go_wp2_with fail
        go_ret
        obtain ⟨⟨M', h1, h2, h3⟩, _⟩ := mC_set_ex M s 0 hn (by omega) HMs.out
        refine HEnd.out _ M' _ (by omega) h2 (by rw [h1, h3]; exact HS.out.1) (HK4.out.grown HS.out.2 hrb (fun j hj => by injection hj with hj; omega))
      · have hxe : ((x : Int) == 0) = false := by simpa using hx0
        by_cases hx1 : x = 1
        · subst hx1
          go_wp2_with fail
          refine (one_lit rb (0 + 30 + 1) [0, 4000, 3999] w3 _ (by simp) (by simp) (by omega) HR3.out).mono ?_
          rintro e w4 ⟨z, hz, rfl, hR4, hK4⟩
          have hown := ownsM_keeps HO3.out hK4 hrb
          have HK4 := Lib.hid (HK3.out.trans hK4)
          obtain ⟨o0, ho0⟩ : ∃ u, (mC M)[1]? = some u := ⟨_, List.getElem?_eq_getElem (by rw [mC_len]; omega)⟩
          have c0 : w4.cell? ⟨g, 1, none⟩ = some o0 := (hown.cellAt 1 (by omega)).trans ho0
          have f0 : w4.frozen? ⟨g, 1, none⟩ = false := hown.frozenAt 1
          have HS := Lib.hid (hown.stored 1 (.int .i64 z))
          clear hz hK4 hR4 hown HK3 HR3 HO3 ho0
          go_wp2_with fail
          go_ret
          obtain ⟨_, ⟨M', h1, h2, h3⟩⟩ := mC_set_ex M ⟨#[]⟩ z hn (by decide) HMs.out
          refine HEnd.out _ M' _ (by omega) h2 (by rw [h1, h3]; exact HS.out.1) (HK4.out.grown HS.out.2 hrb (fun j hj => by injection hj with hj; omega))
        · have hxe1 : ((x : Int) == 1) = false := by rw [beq_eq_false_iff_ne]; omega
          go_wp2_with fail
          go_ret
          exact HEnd.out _ M _ hM HMs.out HO3.out HK3.out
  · have hd : decide ((0 : Int) < (M.length : Int)) = false := decide_eq_false (by omega)
    have hd2 : decide (0 < M.length) = false := decide_eq_false hn
    obtain ⟨a', c', rfl⟩ := OwnC.slice o2
    clear o2
    go_wp2_with fail
    go_ret
    exact HEnd.out _ M _ hM HMs.out (OwnC.row HO.out) HK2.out
end Go.Proofs.Ytflnbpiegcepcaa

/- Drawn mentions. -/
import Derived.Test.YtflnbpiegcepcaaDoorIdxMenL
import Derived.Test.YtflnbpiegcepcaaDoorDrawCols2
import Derived.Test.YtflnbpiegcepcaaDoorMutate
namespace Go.Proofs.YtflnbpiegcepcaaDoor
open Go.RowKit
set_option maxHeartbeats 2000000
set_option maxRecDepth 100000
set_option linter.unusedVariables false

/-- One mention appended to a row of the call's own. -/
theorem wpList_append_men {ops : Array Oper} {rest : List Oper} {o : Oper} {a : Act} {Q : Exit → Act → World → Prop} {w : World} (H : Nat) (hH : w.heap.size = H) (hgd : o.guard = none) (s x : Operand)
    (ho : o.op = .call { callee := .builtin .append, args := #[s, x], argTypes := #[41, 41] }) (B : Nat) (v : Value) (M : List Men) (z : ByteArray) (y : Int)
    (hown : w.ownsRow B 74 2 v M.length (mC M)) (hs : a.eval s = v) (hx : a.eval x = .slice (some ⟨H, 0, none⟩) 1 1) (h63 : M.length ≤ 1000000) (hbase : B ≤ w.heap.size)
    (h : ∀ v' w', w'.ownsRow B 74 2 v' (M.length + 1) (mC (M ++ [(z, y)])) → w.grownBy w' v.ownBlock → wpList Tryd.prog ops Q rest (a.put o.dst v') w') :
    wpList Tryd.prog ops Q (o :: rest) a (w.alloc (.cells #[.string z, .int .i64 y] 74)) := by
  subst hH
  obtain ⟨i0, hi, hz0, hz1, hz2⟩ := info_parts menInfo
  refine wpList_append_own _ hgd s x 41 ho B 74 i0 (.agg #[.string ⟨#[]⟩, .int .i64 0]) 2 24 Tryd.underlying41 hi hz0 hz1 hz2 rfl (by decide) v M.length _ hs (hown.alloc _) ⟨w.heap.size, 0, none⟩ 1 1 [.string z, .int .i64 y] hx rfl ?_ (by intro u hu; simp at hu; rcases hu with rfl | rfl <;> rfl) (by unfold maxLen; omega) (by omega) (by simp; omega) ?_
  · intro j u hj
    match j, hj with
    | 0, hj => simp at hj; subst hj; simp [go_sem]
    | 1, hj => simp at hj; subst hj; simp [go_sem]
    | j + 2, hj => simp at hj
  · intro v' w' h1 h2 _
    refine h v' w' (by rw [mC_append]; exact h1) (grownBy_trans (World.grownBy_alloc w _ _) h2)
theorem ownsM_keeps {T : TypeId} {m rb B n : Nat} {w w' : World} {v : Value} {xs : List Value} (h : w.ownsRow B T m v n xs) (hk : Keeps rb w w') (hB : rb < B) : w'.ownsRow B T m v n xs := owns_keeps h hk hB
/-- A short list of mentions, drawn. -/
def DrewM (rb P m : Nat) (w : World) (e : Ending) (w' : World) : Prop := ∃ (v : Value) (M : List Men), M.length ≤ m ∧ (∀ x ∈ M, x.1.size ≤ 10 ∧ okM x = true) ∧ e = .returned v ∧ OwnM w.heap.size w'.heap.size w' v M ∧ Rdr w' rb P ∧ Keeps rb w w'

theorem drawn_word (s : ByteArray) (h : s ∈ [(⟨#[97]⟩ : ByteArray), ⟨#[97, 98]⟩, ⟨#[98]⟩, ⟨#[103, 108, 117, 101]⟩, ⟨#[98, 111, 120]⟩]) : s.size ≤ 10 ∧ okW s = true := by
  simp only [List.mem_cons, List.not_mem_nil, or_false] at h
  rcases h with rfl | rfl | rfl | rfl | rfl <;> exact ⟨by decide, by kernel_rfl⟩
theorem randomMentions_any (rb P : Nat) (w : World) (hP : P ≤ 800000) (hR : Rdr w rb P) :
    Calls Tryd.prog 52 #[.pointer (some ⟨rb, 0, none⟩)] w (DrewM rb (P + 30) 12 w) := by
  have hrb := hR.lies
  have HO : Hid ((w.alloc (.cells #[] 74)).ownsRow w.heap.size 74 2 (.slice (some ⟨w.heap.size, 0, none⟩) 0 0) 0 (mC [])) :=
    World.ownsRow_lit w #[] 0 (Nat.le_refl _) (Nat.zero_le _) rfl
  have hb2 : Below w.heap.size w (w.alloc (.cells #[] 74)) := (Below.refl _ _).alloc (Nat.le_refl _) _
  have hR2 := hR.below hb2
  have HK2 := Lib.hid (Keeps.of_below hrb hb2)
  clear hb2 hR
  go_enter Tryd.func52, Tryd.ntmps52
  go_wp2_with fail
  refine (pick_pos rb P 12 _ (by omega) (by omega) hR2).mono ?_
  rintro e w2 ⟨c, hc, rfl, hR3, hK3⟩
  have HO3 := Lib.hid (ownsM_keeps HO.out hK3 hrb)
  have HK3 := Lib.hid (HK2.out.trans hK3)
  have HR3 := Lib.hid hR3
  clear HO HK2 hK3 hR3 hR2
  go_wp2_with fail
  go_loopw [3, 4] (fun v n wr => ∃ (k : Nat) (M : List Men), n = .int .i64 k ∧ k + M.length ≤ 12 ∧ (∀ x ∈ M, x.1.size ≤ 10 ∧ okM x = true) ∧ Hid (Rdr wr rb (P + 1 + 2 * M.length)) ∧ Hid (Keeps rb w wr) ∧ Hid (wr.ownsRow w.heap.size 74 2 v M.length (mC M))) (fun _ n _ => (intOf n).toNat)
  case atStart => exact ⟨c, [], rfl, by simp; omega, by simp, HR3, HK3, HO3⟩
  case round =>
    clear HO3 HK3 HR3 hc
    obtain ⟨k, M, rfl, hkl, hMs, HR, HK, HO⟩ := hrel
    have HMs := Lib.hid hMs
    clear hMs
    by_cases hk : 0 < k
    · have hrw : rb < wr.heap.size := HR.out.lies
      have hlo : w.heap.size ≤ wr.heap.size := HK.out.below.size
      go_wp2_with fail
      refine (of_pick rb (P + 1 + 2 * M.length) [⟨#[97]⟩, ⟨#[97, 98]⟩, ⟨#[98]⟩, ⟨#[103, 108, 117, 101]⟩, ⟨#[98, 111, 120]⟩] 5 wr rfl (by omega) (by omega) (by omega) HR.out _).mono ?_
      rintro e w3 ⟨s, hs, rfl, hR3, hK3⟩
      have HSm := Lib.hid (drawn_word s hs)
      clear hs
      have HO3 := Lib.hid (ownsM_keeps HO.out hK3 hrb)
      have HK3 := Lib.hid (HK.out.trans hK3)
      have HR3 := Lib.hid hR3
      clear hK3 hR3 HO HK HR
      go_wp2_with fail
      refine (pick_pos rb (P + 1 + 2 * M.length + 1) 8 _ (by omega) (by omega) HR3.out).mono ?_
      rintro e w4 ⟨x, hx, rfl, hR4, hK4⟩
      have HO4 := Lib.hid (ownsM_keeps HO3.out hK4 hrb)
      have HK4 := Lib.hid (HK3.out.trans hK4)
      have HR4 := Lib.hid hR4
      have hlo4 : w.heap.size ≤ w4.heap.size := HK4.out.below.size
      clear hK4 hR4 HO3 HK3 HR3
      go_wp2_with (at_builtin; go_must (refine wpList_append_men w4.heap.size rfl rfl _ _ rfl w.heap.size _ M s (1 + (x : Int)) HO4.out rfl rfl (by omega) hlo4 ?_))
      intro v' w8 hown' hgrow
      have HR8 := Lib.hid (HR4.out.grown hgrow (fun j hj => by have := (HO4.out.lt j hj).1; omega)).1
      have HK8 := Lib.hid (HK4.out.grown hgrow hrb (fun j hj => (HO4.out.lt j hj).1))
      have HO8 : Hid (w8.ownsRow w.heap.size 74 2 v' (M ++ [(s, 1 + (x : Int))]).length (mC (M ++ [(s, 1 + (x : Int))]))) := Lib.hid (by simpa using hown')
      have HSub : Hid ((k : Int) - 1 = ((k - 1 : Nat) : Int)) := Lib.hid (by omega)
      have HS8 : Hid (∀ y ∈ M ++ [(s, 1 + (x : Int))], y.1.size ≤ 10 ∧ okM y = true) := Lib.hid (by
        intro y hy
        rcases List.mem_append.1 hy with hy | hy
        · exact HMs.out y hy
        · rw [List.mem_singleton] at hy; subst hy; refine ⟨HSm.out.1, ?_⟩; unfold okM; rw [HSm.out.2, decide_eq_true (by omega)]; rfl)
      clear hown' hgrow HO4 HR4 HK4
      go_wp2_with fail
      rw [HSub.out]
      go_roundw
      case rel => exact ⟨k - 1, M ++ [(s, 1 + (x : Int))], rfl, by simp; omega, HS8.out, Lib.hid (HR8.out.mono (by simp; omega)), HK8, HO8⟩
      case measure => simp [intOf]; omega
    · obtain rfl : k = 0 := by omega
      go_wp2_with fail
      go_ret
      exact ⟨_, M, by omega, HMs.out, rfl, ownC_of HO.out, HR.out.mono (by omega), HK.out⟩

theorem mC_set_ex : ∀ (M : List Men) (s : ByteArray) (p : Int), 0 < M.length → s.size ≤ 10 → (∀ x ∈ M, x.1.size ≤ 10) →
    (∃ M' : List Men, M'.length = M.length ∧ (∀ x ∈ M', x.1.size ≤ 10) ∧ mC M' = (mC M).set 0 (.string s)) ∧ (∃ M' : List Men, M'.length = M.length ∧ (∀ x ∈ M', x.1.size ≤ 10) ∧ mC M' = (mC M).set 1 (.int .i64 p))
  | [], s, p, h, _, _ => by simp at h
  | (a, b) :: r, s, p, _, hs, h => by
    refine ⟨⟨(s, b) :: r, rfl, ?_, rfl⟩, ⟨(a, p) :: r, rfl, ?_, rfl⟩⟩
    · intro x hx
      rcases List.mem_cons.1 hx with rfl | hx
      · exact hs
      · exact h x (List.mem_cons_of_mem _ hx)
    · intro x hx
      rcases List.mem_cons.1 hx with rfl | hx
      · exact h (a, b) (by simp)
      · exact h x (List.mem_cons_of_mem _ hx)
def DrewMen (w : World) (e : Ending) (w' : World) : Prop := ∃ (v : Value) (M : List Men), M.length ≤ 12 ∧ (∀ x ∈ M, x.1.size ≤ 10) ∧ e = .returned v ∧ OwnM w.heap.size w'.heap.size w' v M ∧ Below w.heap.size w w'
end Go.Proofs.YtflnbpiegcepcaaDoor

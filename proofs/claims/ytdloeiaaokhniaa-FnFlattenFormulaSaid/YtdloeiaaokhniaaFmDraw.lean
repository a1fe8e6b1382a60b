/- Drawn formulas. -/
import Derived.Test.YtdloeiaaokhniaaFmFl
import Derived.Test.YtdloeiaaokhniaaDraws
import Derived.Deep.AppendLies
import Derived.Deep.RegionLaw
namespace Go.Proofs.Ytdloeiaaokhniaa
open Go.RowKit
open FL
set_option maxHeartbeats 4000000
set_option maxRecDepth 100000
set_option linter.unusedVariables false

theorem run_append_fm {w : World} (ty : TypeId) (B : Nat) (v : Value) (n : Nat) (xs : List Value) (hown : w.ownsRow B 32 5 v n xs) (ad : Addr) (m c : Nat) (news : List Value) (hl : news.length = m * 5) (hnews : ∀ j u, news[j]? = some u → w.cell? (ad.add j) = some u) (h1 : ∀ u ∈ news, u.oneCell' = true)
    (hm : 1 ≤ m) (h63 : n + m ≤ 2000000) (hbase : B ≤ w.heap.size) :
    ∃ v' w', (Builtin.append_ #[30, 30] ty #[v, .slice (some ad) m c]).run Try.prog w = .ok v' w' ∧ w'.ownsRow B 32 5 v' (n + m) (xs ++ news) ∧ w.grownBy w' v.ownBlock ∧ (∀ k, v'.ownBlock = some k → v.ownBlock = some k ∨ w.heap.size ≤ k) := by
  obtain ⟨i0, hi0, hz0, hz1, hz2⟩ := info_parts fmInfo
  have hlen := hown.1
  have moved : ∀ v' w', w'.ownsRow w.heap.size 32 5 v' (n + m) (xs ++ news) → w.grownBy w' none → w'.ownsRow B 32 5 v' (n + m) (xs ++ news) ∧ w.grownBy w' v.ownBlock ∧ (∀ k, v'.ownBlock = some k → v.ownBlock = some k ∨ w.heap.size ≤ k) := by
    intro v' w' h2 h3
    refine ⟨⟨h2.1, ?_⟩, ⟨h3.os, h3.tape, h3.output, h3.size, fun k hk _ => h3.block k hk (by simp)⟩, ?_⟩
    · rcases h2.2 with h4 | ⟨g, cp, cur, h4, h5, h6⟩
      · exact .inl h4
      · exact .inr ⟨g, cp, cur, h4, Nat.le_trans hbase h5, h6⟩
    · intro k hk
      rcases h2.2 with ⟨rfl, _⟩ | ⟨g, cp, cur, rfl, h5, h6⟩
      · simp [Value.ownBlock] at hk
      · simp [Value.ownBlock] at hk; subst hk; exact .inr h5
  rcases hown.2 with ⟨rfl, h0⟩ | ⟨g, cap, cur, rfl, hg1, hg2, hg3, hg4, hg5, hg6⟩
  · subst h0
    obtain rfl : xs = [] := List.eq_nil_of_length_eq_zero (by simpa using hlen)
    obtain ⟨v', w', hrun, r1, r2, _⟩ := run_append_own (P := Try.prog) w w.heap.size 30 ty 32 i0 (.agg #[.int .i64 0, .int .i64 0, .int .i64 0, .int .i64 0, .slice none 0 0]) 5 56 Try.underlying30 hi0 hz0 hz1 hz2 rfl (by decide) (.slice none 0 0) 0 [] (World.ownsRow_nil w _ _ _) ad m c news hl hnews h1 (by unfold maxLen; omega) (by omega) (Nat.le_refl _)
    exact ⟨v', w', hrun, moved v' w' r1 r2⟩
  · by_cases hfit : n + m ≤ cap
    · obtain ⟨w', hrun, r1, r2⟩ := run_append_fits (P := Try.prog) w B 30 ty 32 i0 5 Try.underlying30 hi0 hz1 g n cap xs hown ad m c news hl hnews h1 hfit
      exact ⟨_, w', hrun, r1, r2, fun k hk => .inl hk⟩
    · obtain ⟨v', w', hrun, r1, r2⟩ := run_append_arg_grows (P := Try.prog) w 30 ty 32 i0 (.agg #[.int .i64 0, .int .i64 0, .int .i64 0, .int .i64 0, .slice none 0 0]) 5 56 Try.underlying30 hi0 hz0 hz1 hz2 rfl (by decide) ⟨g, 0, none⟩ n cap xs hlen (fun j u hj => by
        have hjl : j < n * 5 := by
          rcases Nat.lt_or_ge j (n * 5) with h | h
          · exact h
          · rw [List.getElem?_eq_none (by omega)] at hj; cases hj
        have e : (⟨g, 0, none⟩ : Addr).add j = ⟨g, j, none⟩ := by simp [Addr.add]; omega
        rw [e, hown.cellAt j hjl, hj]) ad m c news hl hnews (by omega) (by unfold maxLen; omega) (by omega)
      exact ⟨v', w', hrun, moved v' w' r1 r2⟩
/-- One formula appended at a step of a region that draws its order. -/
theorem step_append_fm {ops : Array Oper} {o : Oper} {a : Act} {K : Act → World → Prop} {Q : Exit → Act → World → Prop} {E : Prop} {w : World} (hgd : o.guard = none) (s x : Operand)
    (ho : o.op = .call { callee := .builtin .append, args := #[s, x], argTypes := #[30, 30] }) (B : Nat) (v : Value) (n : Nat) (xs : List Value)
    (hown : w.ownsRow B 32 5 v n xs) (hs : a.eval s = v) (ad : Addr) (m c : Nat) (news : List Value) (hx : a.eval x = .slice (some ad) m c) (hl : news.length = m * 5) (hnews : ∀ j u, news[j]? = some u → w.cell? (ad.add j) = some u) (h1 : ∀ u ∈ news, u.oneCell' = true)
    (hm : 1 ≤ m) (h63 : n + m ≤ 2000000) (hbase : B ≤ w.heap.size)
    (h : ∀ v' w', w'.ownsRow B 32 5 v' (n + m) (xs ++ news) → w.grownBy w' v.ownBlock → (∀ k, v'.ownBlock = some k → v.ownBlock = some k ∨ w.heap.size ≤ k) → K (a.put o.dst v') w') :
    if Region.wanted o (yielded ops a.tmps) = true then Oper.wp Try.prog o a w K Q else E := by
  have hw : Region.wanted o (yielded ops a.tmps) = true := by simp [Region.wanted, hgd]
  rw [if_pos hw]
  obtain ⟨v', w', hr, h2, h3, h4⟩ := run_append_fm (w := w) o.type B v n xs hown ad m c news hl hnews h1 hm h63 hbase
  unfold Oper.wp execOp
  simp only [ho, resolve, invoke, builtin, Sem.run_bind, Sem.run_pure, Result.andThen_ok, List.map_toArray, List.map_cons, List.map_nil, hs, hx, hr]
  exact h v' w' h2 h3 h4

theorem Five.keeps {T : TypeId} {w w' : World} {rb b : Nat} {v0 v1 v2 v3 v4 : Value} (h : Five T w b v0 v1 v2 v3 v4) (hk : Keeps rb w w') (hne : b ≠ rb) : Five T w' b v0 v1 v2 v3 v4 := h.same (hk.others b h.lt hne)
theorem Made.keeps {rb lo : Nat} {w w' : World} {v : Value} {P : FL} {C : List Value} (h : Made lo w v P C) (hk : Keeps rb w w') (hl : rb < lo) : Made lo w' v P C :=
  ⟨row_same h.row (fun k hkk => hk.others k (h.row.lt k hkk).2 (by have := (h.row.lt k hkk).1; omega)), (h.kids.of_same hk.below.size (fun b h1 h2 _ => hk.others b h2 (by omega))).mono (Nat.le_refl _) hk.below.size (Nat.le_refl _), h.nil0⟩
theorem OwnFm.keeps {rb lo hi : Nat} {w w' : World} {v : Value} {g : FL} (h : OwnFm lo hi w v g) (hk : Keeps rb w w') (hl : rb < lo) : OwnFm lo hi w' v g :=
  h.of_same hk.below.size (fun b h1 h2 => hk.others b (Nat.lt_of_lt_of_le h2 h.1) (by omega))
theorem Keeps.setOther {rb : Nat} {w w' : World} (h : Keeps rb w w') {b o : Nat} (hb : w.heap.size ≤ b) (hrb : rb < w.heap.size) (u : Value) : Keeps rb w (w'.setCell ⟨b, o, none⟩ u) :=
  ⟨h.below.setCell (by simp only; omega) _, fun k hk hne => (Below.heap_setCell _ _ _ _ (by simp only; omega)).trans (h.others k hk hne)⟩
theorem Keeps.allocK {rb : Nat} {w w' : World} (h : Keeps rb w w') (hrb : rb < w.heap.size) (o : Obj) : Keeps rb w (w'.alloc o) :=
  h.trans (Keeps.of_below (Nat.lt_of_lt_of_le hrb h.below.size) ((Below.refl _ _).alloc (Nat.le_refl _) o))
theorem Rdr.allocR {rb P : Nat} {w : World} (h : Rdr w rb P) (o : Obj) : Rdr (w.alloc o) rb P := h.below ((Below.refl _ _).alloc (Nat.le_refl _) o)

def sbd : Nat → Int
  | 0 => 8
  | d + 1 => 3 * sbd d + 10
def szb : Nat → Nat
  | 0 => 0
  | d + 1 => 3 * (szb d + 1)
def pkb : Nat → Nat
  | 0 => 4
  | d + 1 => 4 + 3 * pkb d
theorem sbd_ge : ∀ d, 8 ≤ sbd d
  | 0 => by simp [sbd]
  | d + 1 => by rw [sbd]; have := sbd_ge d; omega
/-- What is known of a drawn formula. -/
structure Small (d : Nat) (k a b c : Int) (g : FL) : Prop where
  kids : ∀ p ∈ layL g, boxIn (sbd (d - 1)) p
  box : boxIn (sbd d) (layFm k a b c g)
  size : g.sz ≤ szb d
  len : g.len ≤ 3
theorem Small.leaf (d : Nat) (a b c : Int) (ha : 0 ≤ a ∧ a ≤ 8) (hb : 0 ≤ b ∧ b ≤ 8) (hc : 0 ≤ c ∧ c ≤ 8) : Small d 1 a b c nil := by
  have := sbd_ge d
  refine ⟨fun p hp => by simp [layL] at hp, ?_, by simp [FL.sz], by simp [FL.len]⟩
  show boxIn (sbd d) (a, b, c)
  exact ⟨by simp only; omega, by simp only; omega, by simp only; omega⟩
/-- Kids so far: each a drawn formula of d levels. -/
structure KidsS (d : Nat) (P : FL) (n : Nat) : Prop where
  box : ∀ p ∈ layL P, boxIn (sbd d) p
  size : P.sz ≤ n * (szb d + 1)
  len : P.len = n
theorem KidsS.nil (d : Nat) : KidsS d FL.nil 0 := ⟨fun p hp => by simp [layL] at hp, by simp [FL.sz], rfl⟩
theorem KidsS.snoc {d n : Nat} {P : FL} {k a b c : Int} {g : FL} (h : KidsS d P n) (hs : Small d k a b c g) : KidsS d (P.app (cons k a b c g FL.nil)) (n + 1) := by
  refine ⟨fun p hp => ?_, ?_, by rw [len_app, h.len]; rfl⟩
  · rw [layL_app, List.mem_append] at hp
    rcases hp with hp | hp
    · exact h.box p hp
    · simp only [layL, List.mem_singleton] at hp
      subst hp
      exact hs.box
  · rw [sz_app]
    have h1 := h.size
    have h2 := hs.size
    simp only [FL.sz]
    rw [Nat.add_mul]; omega
theorem KidsS.small {d n : Nat} {P : FL} {k : Int} (h : KidsS d P n) (hn : (k = 2 ∧ n ≤ 3) ∨ (k = 3 ∧ n = 2) ∨ (k = 4 ∧ n = 2) ∨ (k = 5 ∧ n = 2) ∨ (k = 6 ∧ n = 1)) : Small (d + 1) k 0 0 0 P := by
  have hB := sbd_ge d
  have hl : (layL P).length = n := by rw [layL_len]; exact h.len
  refine ⟨h.box, ?_, ?_, by rw [h.len]; omega⟩
  · have hb := h.box
    unfold layFm
    show boxIn (3 * sbd d + 10) _
    generalize sbd d = B at *
    generalize layL P = L at *
    rcases hn with ⟨rfl, hn⟩ | ⟨rfl, hn⟩ | ⟨rfl, hn⟩ | ⟨rfl, hn⟩ | ⟨rfl, hn⟩
    · obtain ⟨x, y, z⟩ := bx_in (by omega) L hb
      rw [layN_row]
      have hm : B * (L.length : Int) ≤ B * 3 := Int.mul_le_mul_of_nonneg_left (by omega) (by omega)
      exact ⟨by simp only; omega, by simp only; omega, by simp only; omega⟩
    · obtain ⟨x, y, rfl⟩ := len_two (hl.trans hn)
      obtain ⟨x1, x2, x3⟩ := hb x (by simp)
      obtain ⟨y1, y2, y3⟩ := hb y (by simp)
      rw [layN_frac]; exact ⟨by simp only; omega, by simp only; omega, by simp only; omega⟩
    · obtain ⟨x, y, rfl⟩ := len_two (hl.trans hn)
      obtain ⟨x1, x2, x3⟩ := hb x (by simp)
      obtain ⟨y1, y2, y3⟩ := hb y (by simp)
      rw [layN_above]; exact ⟨by simp only; omega, by simp only; omega, by simp only; omega⟩
    · obtain ⟨x, y, rfl⟩ := len_two (hl.trans hn)
      obtain ⟨x1, x2, x3⟩ := hb x (by simp)
      obtain ⟨y1, y2, y3⟩ := hb y (by simp)
      rw [layN_below]; exact ⟨by simp only; omega, by simp only; omega, by simp only; omega⟩
    · obtain ⟨x, rfl⟩ := len_one (hl.trans hn)
      obtain ⟨x1, x2, x3⟩ := hb x (by simp)
      rw [layN_root]; exact ⟨by simp only; omega, by simp only; omega, by simp only; omega⟩
  · have := h.size
    show P.sz ≤ 3 * (szb d + 1)
    have h3 : n ≤ 3 := by omega
    have := Nat.mul_le_mul_right (szb d + 1) h3
    omega
end Go.Proofs.Ytdloeiaaokhniaa

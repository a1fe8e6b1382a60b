/- Formulas appended and copied. -/
import Derived.Test.YtdloeiaaokhniaaFmOwn
import Derived.OwnWalk
import Derived.ArgAppend
import Derived.Laws.AppendOwnNone
namespace Go.Proofs.Ytdloeiaaokhniaa
open Go.RowKit
open FL
set_option maxHeartbeats 1000000
set_option maxRecDepth 100000

theorem fmInfo : (Try.prog.info? 32).map (fun i => (i.zero, i.size, i.bytes)) = some (some (.agg #[.int .i64 0, .int .i64 0, .int .i64 0, .int .i64 0, .slice none 0 0]), 5, 56) := by kernel_rfl

/-- Formulas appended to a row of the call's own: the row stays in its block or moves to a new one. -/
theorem wpList_append_fm {ops : Array Oper} {rest : List Oper} {o : Oper} {a : Act} {Q : Exit → Act → World → Prop} {w : World} (hgd : o.guard = none) (s x : Operand)
    (ho : o.op = .call { callee := .builtin .append, args := #[s, x], argTypes := #[30, 30] }) (B : Nat) (v : Value) (n : Nat) (xs : List Value)
    (hown : w.ownsRow B 32 5 v n xs) (hs : a.eval s = v) (ad : Addr) (m c : Nat) (news : List Value) (hx : a.eval x = .slice (some ad) m c) (hl : news.length = m * 5) (hnews : ∀ j u, news[j]? = some u → w.cell? (ad.add j) = some u) (h1 : ∀ u ∈ news, u.oneCell' = true)
    (hm : 1 ≤ m) (h63 : n + m ≤ 2000000) (hbase : B ≤ w.heap.size)
    (h : ∀ v' w', w'.ownsRow B 32 5 v' (n + m) (xs ++ news) → w.grownBy w' v.ownBlock → (∀ k, v'.ownBlock = some k → v.ownBlock = some k ∨ w.heap.size ≤ k) → wpList Try.prog ops Q rest (a.put o.dst v') w') :
    wpList Try.prog ops Q (o :: rest) a w := by
  obtain ⟨i0, hi0, hz0, hz1, hz2⟩ := info_parts fmInfo
  have hlen := hown.1
  have key : ∀ (ao : Option Addr) (cap : Nat), v = .slice ao n cap → (ao = none → n = 0 ∧ cap = 0) → (∀ b, ao = some b → ∀ j u, xs[j]? = some u → w.cell? (b.add j) = some u) → cap < n + m → wpList Try.prog ops Q (o :: rest) a w := by
    intro ao cap hv hn hold hfull
    refine wpList_append_grows w hgd s x 30 ho 32 i0 (.agg #[.int .i64 0, .int .i64 0, .int .i64 0, .int .i64 0, .slice none 0 0]) 5 56 Try.underlying30 hi0 hz0 hz1 hz2 rfl (by decide) ao n cap xs (by rw [hs, hv]) hn hlen hold ad m c news hx hl hnews h1 hfull (by unfold maxLen; omega) (by omega) ?_
    intro v' w' h2 h3
    refine h v' w' ⟨h2.1, ?_⟩ ⟨h3.os, h3.tape, h3.output, h3.size, fun k hk _ => h3.block k hk (by simp)⟩ ?_
    · rcases h2.2 with h4 | ⟨g, cp, cur, h4, h5, h6⟩
      · exact .inl h4
      · exact .inr ⟨g, cp, cur, h4, Nat.le_trans hbase h5, h6⟩
    · intro k hk
      rcases h2.2 with ⟨rfl, _⟩ | ⟨g, cp, cur, rfl, h5, h6⟩
      · simp [Value.ownBlock] at hk
      · simp [Value.ownBlock] at hk; subst hk; exact .inr h5
  rcases hown.2 with ⟨rfl, h0⟩ | ⟨g, cap, cur, rfl, hg1, hg2, hg3, hg4, hg5, hg6⟩
  · exact key none 0 (by rw [h0]) (fun _ => ⟨h0, rfl⟩) (fun b hb => by cases hb) (by omega)
  · by_cases hfit : n + m ≤ cap
    · refine wpList_append_fits w hgd s x 30 ho B 32 i0 5 Try.underlying30 hi0 hz1 g n cap xs hs hown ad m c news hx hl hnews h1 hfit ?_
      intro w' h2 h3
      exact h _ w' h2 h3 (fun k hk => .inl hk)
    · refine key (some ⟨g, 0, none⟩) cap rfl (fun e => by cases e) (fun b hb j u hj => ?_) (by omega)
      injection hb with hb
      subst hb
      have hjl : j < n * 5 := by
        rcases Nat.lt_or_ge j (n * 5) with h | h
        · exact h
        · rw [List.getElem?_eq_none (by omega)] at hj; cases hj
      have e : (⟨g, 0, none⟩ : Addr).add j = ⟨g, j, none⟩ := by simp [Addr.add]; omega
      rw [e, hown.cellAt j hjl, hj]
theorem list_set5 (C : List Value) (k : Nat) (h : k * 5 + 5 ≤ C.length) (a b c d e : Value) : (((((C.set (k * 5) a).set (k * 5 + 1) b).set (k * 5 + 2) c).set (k * 5 + 3) d).set (k * 5 + 4) e).take ((k + 1) * 5) = C.take (k * 5) ++ [a, b, c, d, e] := by
  apply List.ext_getElem?
  intro j
  by_cases h0 : j < k * 5
  · rw [List.getElem?_take_of_lt (by omega), List.getElem?_append_left (by rw [List.length_take]; omega), List.getElem?_take_of_lt h0]
    rw [List.getElem?_set_ne (by omega), List.getElem?_set_ne (by omega), List.getElem?_set_ne (by omega), List.getElem?_set_ne (by omega), List.getElem?_set_ne (by omega)]
  · rw [List.getElem?_append_right (by rw [List.length_take]; omega), List.length_take, Nat.min_eq_left (by omega)]
    by_cases h5 : j < (k + 1) * 5
    · rw [List.getElem?_take_of_lt h5]
      rcases (show j = k * 5 ∨ j = k * 5 + 1 ∨ j = k * 5 + 2 ∨ j = k * 5 + 3 ∨ j = k * 5 + 4 by omega) with rfl | rfl | rfl | rfl | rfl
      · rw [List.getElem?_set_ne (by omega), List.getElem?_set_ne (by omega), List.getElem?_set_ne (by omega), List.getElem?_set_ne (by omega), List.getElem?_set_self (by omega), Nat.sub_self]; rfl
      · rw [List.getElem?_set_ne (by omega), List.getElem?_set_ne (by omega), List.getElem?_set_ne (by omega), List.getElem?_set_self (by simp; omega), Nat.add_sub_cancel_left]; rfl
      · rw [List.getElem?_set_ne (by omega), List.getElem?_set_ne (by omega), List.getElem?_set_self (by simp; omega), Nat.add_sub_cancel_left]; rfl
      · rw [List.getElem?_set_ne (by omega), List.getElem?_set_self (by simp; omega), Nat.add_sub_cancel_left]; rfl
      · rw [List.getElem?_set_self (by simp; omega), Nat.add_sub_cancel_left]; rfl
    · rw [List.getElem?_take_eq_none (by omega), List.getElem?_eq_none (by simp; omega)]

theorem toBox_any (x y z : Int) (w : World) :
    Calls Try.prog 31 #[.agg #[.int .i64 x, .int .i64 y, .int .i64 z]] w fun e w' => e = .returned (.agg #[.int .i64 x, .int .i64 y, .int .i64 z]) ∧ Below w.heap.size w w' := by
  go_enter Try.func31, Try.ntmps31
  go_wp2
  refine bodyPost_ret (v := .agg #[.int .i64 x, .int .i64 y, .int .i64 z]) (by simp [results, Try.results31, go_sem]) rfl ⟨rfl, ?_⟩
  exact (((Below.refl _ _).alloc (Nat.le_refl _) _).alloc (by simp) _).alloc (by simp; omega) _

def ToOk (g : FL) : Prop := ∀ (v : Value) (w : World), Kids AllS w v g → g.sz ≤ 1048576 →
  Calls Try.prog 32 #[v] w fun e w' => ∃ u, e = .returned u ∧ OwnFm w.heap.size w'.heap.size w' u g ∧ Below w.heap.size w w'
theorem OwnFm.shape {lo hi : Nat} {w : World} {v : Value} {g : FL} (h : OwnFm lo hi w v g) : ∃ a cap, v = .slice a g.len cap ∧ cap ≤ maxLen := by
  obtain ⟨a, cap, e, _, h2, _⟩ := h.kids.cells
  exact ⟨a, cap, e, h2⟩

theorem alloc_sz (w : World) (o : Obj) : (w.alloc o).heap.size = w.heap.size + 1 := by simp [go_sem]
/-- A block of five cells, its own. -/
def Five (T : TypeId) (w : World) (b : Nat) (v0 v1 v2 v3 v4 : Value) : Prop := w.ownsRow b T 5 (.slice (some ⟨b, 0, none⟩) 1 1) 1 [v0, v1, v2, v3, v4]
theorem Five.lt {T : TypeId} {w : World} {b : Nat} {v0 v1 v2 v3 v4 : Value} (h : Five T w b v0 v1 v2 v3 v4) : b < w.heap.size := (World.ownsRow.lt h b rfl).2
theorem Five.cells {T : TypeId} {w : World} {b : Nat} {v0 v1 v2 v3 v4 : Value} (h : Five T w b v0 v1 v2 v3 v4) :
    w.cell? ⟨b, 0, none⟩ = some v0 ∧ w.cell? ⟨b, 1, none⟩ = some v1 ∧ w.cell? ⟨b, 2, none⟩ = some v2 ∧ w.cell? ⟨b, 3, none⟩ = some v3 ∧ w.cell? ⟨b, 4, none⟩ = some v4 :=
  ⟨World.ownsRow.cellAt h 0 (by omega), World.ownsRow.cellAt h 1 (by omega), World.ownsRow.cellAt h 2 (by omega), World.ownsRow.cellAt h 3 (by omega), World.ownsRow.cellAt h 4 (by omega)⟩
theorem Five.free {T : TypeId} {w : World} {b : Nat} {v0 v1 v2 v3 v4 : Value} (h : Five T w b v0 v1 v2 v3 v4) :
    w.frozen? ⟨b, 0, none⟩ = false ∧ w.frozen? ⟨b, 1, none⟩ = false ∧ w.frozen? ⟨b, 2, none⟩ = false ∧ w.frozen? ⟨b, 3, none⟩ = false ∧ w.frozen? ⟨b, 4, none⟩ = false :=
  ⟨World.ownsRow.frozenAt h 0, World.ownsRow.frozenAt h 1, World.ownsRow.frozenAt h 2, World.ownsRow.frozenAt h 3, World.ownsRow.frozenAt h 4⟩
theorem Five.same {T : TypeId} {w w' : World} {b : Nat} {v0 v1 v2 v3 v4 : Value} (h : Five T w b v0 v1 v2 v3 v4) (hs : w'.heap[b]? = w.heap[b]?) : Five T w' b v0 v1 v2 v3 v4 := by
  refine ⟨h.1, ?_⟩
  rcases h.2 with h0 | ⟨g, cap, cur, e, h1, h2, h3⟩
  · exact .inl h0
  · injection e with e1 _ e3
    injection e1 with e1
    injection e1 with e1
    subst e1
    exact .inr ⟨b, cap, cur, by rw [e3], h1, by rw [hs]; exact h2, h3⟩
theorem Five.below {T : TypeId} {w w' : World} {b : Nat} {v0 v1 v2 v3 v4 : Value} (h : Five T w b v0 v1 v2 v3 v4) (hb : Below w.heap.size w w') : Five T w' b v0 v1 v2 v3 v4 := h.same (hb.block b h.lt)
theorem Five.new (T : TypeId) (w : World) (v0 v1 v2 v3 v4 : Value) : Five T (w.alloc (.cells #[v0, v1, v2, v3, v4] T)) w.heap.size v0 v1 v2 v3 v4 := World.ownsRow_lit w #[v0, v1, v2, v3, v4] 1 (Nat.le_refl _) (by decide) rfl
theorem Five.alloc {T : TypeId} {w : World} {b : Nat} {v0 v1 v2 v3 v4 : Value} (h : Five T w b v0 v1 v2 v3 v4) (o : Obj) : Five T (w.alloc o) b v0 v1 v2 v3 v4 := h.below ((Below.refl _ _).alloc (Nat.le_refl _) _)
theorem Five.set1 {T : TypeId} {w : World} {b : Nat} {v0 v1 v2 v3 v4 : Value} (h : Five T w b v0 v1 v2 v3 v4) (u : Value) : Five T (w.setCell ⟨b, 1, none⟩ u) b v0 u v2 v3 v4 := (World.ownsRow.stored h 1 u).1
theorem Five.set2 {T : TypeId} {w : World} {b : Nat} {v0 v1 v2 v3 v4 : Value} (h : Five T w b v0 v1 v2 v3 v4) (u : Value) : Five T (w.setCell ⟨b, 2, none⟩ u) b v0 v1 u v3 v4 := (World.ownsRow.stored h 2 u).1
theorem Five.set3 {T : TypeId} {w : World} {b : Nat} {v0 v1 v2 v3 v4 : Value} (h : Five T w b v0 v1 v2 v3 v4) (u : Value) : Five T (w.setCell ⟨b, 3, none⟩ u) b v0 v1 v2 u v4 := (World.ownsRow.stored h 3 u).1
theorem Five.set4 {T : TypeId} {w : World} {b : Nat} {v0 v1 v2 v3 v4 : Value} (h : Five T w b v0 v1 v2 v3 v4) (u : Value) : Five T (w.setCell ⟨b, 4, none⟩ u) b v0 v1 v2 v3 u := (World.ownsRow.stored h 4 u).1
theorem Five.set0 {T : TypeId} {w : World} {b : Nat} {v0 v1 v2 v3 v4 : Value} (h : Five T w b v0 v1 v2 v3 v4) (u : Value) : Five T (w.setCell ⟨b, 0, none⟩ u) b u v1 v2 v3 v4 := (World.ownsRow.stored h 0 u).1
theorem Five.aside {T : TypeId} {w : World} {b c o : Nat} {v0 v1 v2 v3 v4 : Value} (h : Five T w b v0 v1 v2 v3 v4) (hc : c ≠ b) (u : Value) : Five T (w.setCell ⟨c, o, none⟩ u) b v0 v1 v2 v3 v4 := h.same (Below.heap_setCell w ⟨c, o, none⟩ u b (fun e => hc e.symm))

theorem to_step {g : FL} (IH : ToOk g) (k a b c : Int) (v : Value) (w : World) (h : Kids AllS w v g) (hsz : g.sz ≤ 1048576) :
    Calls Try.prog 13 #[fmV k a b c v] w fun e w' => ∃ u, e = .returned (fmV k a b c u) ∧ OwnFm w.heap.size w'.heap.size w' u g ∧ Below w.heap.size w w' := by
  have HI := Lib.hid IH
  have HK := Lib.hid h
  obtain ⟨ad, cap, rfl, _⟩ := h.cells
  clear h IH
  have HA : Hid (Below w.heap.size w (((w.alloc (.cells #[.int .i64 k, .int .i64 a, .int .i64 b, .int .i64 c, .slice ad g.len cap] 26)).alloc (.cells #[.int .i64 0, .int .i64 0, .int .i64 0, .int .i64 0, .slice none 0 0] 32)).alloc (.cells #[.int .i64 k, .int .i64 0, .int .i64 0, .int .i64 0, .slice none 0 0] 32))) := Lib.hid ((((Below.refl _ _).alloc (Nat.le_refl _) _).alloc (by simp) _).alloc (by simp; omega) _)
  have F0 := Lib.hid (((Five.new 26 w (.int .i64 k) (.int .i64 a) (.int .i64 b) (.int .i64 c) (.slice ad g.len cap)).alloc (.cells #[.int .i64 0, .int .i64 0, .int .i64 0, .int .i64 0, .slice none 0 0] 32)).alloc (.cells #[.int .i64 k, .int .i64 0, .int .i64 0, .int .i64 0, .slice none 0 0] 32))
  have F1 := Lib.hid ((Five.new 32 (w.alloc (.cells #[.int .i64 k, .int .i64 a, .int .i64 b, .int .i64 c, .slice ad g.len cap] 26)) (.int .i64 0) (.int .i64 0) (.int .i64 0) (.int .i64 0) (.slice none 0 0)).alloc (.cells #[.int .i64 k, .int .i64 0, .int .i64 0, .int .i64 0, .slice none 0 0] 32))
  have F2 := Lib.hid (Five.new 32 ((w.alloc (.cells #[.int .i64 k, .int .i64 a, .int .i64 b, .int .i64 c, .slice ad g.len cap] 26)).alloc (.cells #[.int .i64 0, .int .i64 0, .int .i64 0, .int .i64 0, .slice none 0 0] 32)) (.int .i64 k) (.int .i64 0) (.int .i64 0) (.int .i64 0) (.slice none 0 0))
  simp only [alloc_sz] at F1 F2
  unfold fmV
  go_enter Try.func13, Try.ntmps13
  go_wp2_with fail
  generalize ((w.alloc (.cells #[.int .i64 k, .int .i64 a, .int .i64 b, .int .i64 c, .slice ad g.len cap] 26)).alloc (.cells #[.int .i64 0, .int .i64 0, .int .i64 0, .int .i64 0, .slice none 0 0] 32)).alloc (.cells #[.int .i64 k, .int .i64 0, .int .i64 0, .int .i64 0, .slice none 0 0] 32) = W at *
  refine (toBox_any a b c W).mono ?_
  rintro e w3 ⟨rfl, b3⟩
  have HA3 := Lib.hid (HA.out.trans (b3.mono HA.out.size))
  have F0 := Lib.hid (F0.out.below b3)
  have F1 := Lib.hid (F1.out.below b3)
  have F2 := Lib.hid (F2.out.below b3)
  clear b3 HA
  obtain ⟨p0, p1, p2, p3, p4⟩ := F2.out.cells
  obtain ⟨q0, q1, q2, q3, q4⟩ := F2.out.free
  obtain ⟨_, _, _, _, r4⟩ := F0.out.cells
  go_wp2_with fail
  have hS0 : w.heap.size ≤ w3.heap.size := HA3.out.size
  have G0 := Lib.hid (((F0.out.aside (c := w.heap.size + 1 + 1) (o := 1) (by omega) (.int .i64 a)).aside (c := w.heap.size + 1 + 1) (o := 2) (by omega) (.int .i64 b)).aside (c := w.heap.size + 1 + 1) (o := 3) (by omega) (.int .i64 c))
  have G1 := Lib.hid (((F1.out.aside (c := w.heap.size + 1 + 1) (o := 1) (by omega) (.int .i64 a)).aside (c := w.heap.size + 1 + 1) (o := 2) (by omega) (.int .i64 b)).aside (c := w.heap.size + 1 + 1) (o := 3) (by omega) (.int .i64 c))
  have G2 := Lib.hid (((F2.out.set1 (.int .i64 a)).set2 (.int .i64 b)).set3 (.int .i64 c))
  have HA4 := Lib.hid (((HA3.out.setCell (p := ⟨w.heap.size + 1 + 1, 1, none⟩) (by simp only; omega) (.int .i64 a)).setCell (p := ⟨w.heap.size + 1 + 1, 2, none⟩) (by simp only; omega) (.int .i64 b)).setCell (p := ⟨w.heap.size + 1 + 1, 3, none⟩) (by simp only; omega) (.int .i64 c))
  clear F0 F1 F2 HA3 p0 p1 p2 p3 p4 q0 q1 q2 q3 q4 r4 hS0
  generalize ((w3.setCell ⟨w.heap.size + 1 + 1, 1, none⟩ (.int .i64 a)).setCell ⟨w.heap.size + 1 + 1, 2, none⟩ (.int .i64 b)).setCell ⟨w.heap.size + 1 + 1, 3, none⟩ (.int .i64 c) = w4 at *
  refine (HI.out _ w4 (HK.out.below HA4.out) hsz).mono ?_
  rintro e w5 ⟨u, rfl, ou, b5⟩
  have HU := Lib.hid ou
  obtain ⟨au, cu, rfl, _⟩ := ou.shape
  have HA5 := Lib.hid (HA4.out.trans (b5.mono HA4.out.size))
  have hS4 : w.heap.size ≤ w4.heap.size := HA4.out.size
  have G1 := Lib.hid (G1.out.below b5)
  have hG2 : w.heap.size + 1 + 1 < w4.heap.size := G2.out.lt
  have G2 := Lib.hid (G2.out.below b5)
  clear b5 HA4 G0 ou
  obtain ⟨p0, p1, p2, p3, p4⟩ := G2.out.cells
  obtain ⟨_, _, _, _, q4⟩ := G2.out.free
  obtain ⟨s0, s1, s2, s3, s4⟩ := G1.out.cells
  obtain ⟨t0, t1, t2, t3, t4⟩ := G1.out.free
  have H2 := Lib.hid (G2.out.set4 (.slice au g.len cu))
  have H1 := Lib.hid ((((((G1.out.aside (c := w.heap.size + 1 + 1) (o := 4) (by omega) (.slice au g.len cu)).set0 (.int .i64 k)).set1 (.int .i64 a)).set2 (.int .i64 b)).set3 (.int .i64 c)).set4 (.slice au g.len cu))
  have hE : Hid (∀ b', w4.heap.size ≤ b' → ((((((w5.setCell ⟨w.heap.size + 1 + 1, 4, none⟩ (.slice au g.len cu)).setCell ⟨w.heap.size + 1, 0, none⟩ (.int .i64 k)).setCell ⟨w.heap.size + 1, 1, none⟩ (.int .i64 a)).setCell ⟨w.heap.size + 1, 2, none⟩ (.int .i64 b)).setCell ⟨w.heap.size + 1, 3, none⟩ (.int .i64 c)).setCell ⟨w.heap.size + 1, 4, none⟩ (.slice au g.len cu)).heap[b']? = w5.heap[b']?) := Lib.hid (fun b' hb' => by
    rw [Below.heap_setCell _ _ _ _ (by simp only; omega), Below.heap_setCell _ _ _ _ (by simp only; omega), Below.heap_setCell _ _ _ _ (by simp only; omega), Below.heap_setCell _ _ _ _ (by simp only; omega), Below.heap_setCell _ _ _ _ (by simp only; omega), Below.heap_setCell _ _ _ _ (by simp only; omega)])
  have hF : Hid (Below w.heap.size w ((((((w5.setCell ⟨w.heap.size + 1 + 1, 4, none⟩ (.slice au g.len cu)).setCell ⟨w.heap.size + 1, 0, none⟩ (.int .i64 k)).setCell ⟨w.heap.size + 1, 1, none⟩ (.int .i64 a)).setCell ⟨w.heap.size + 1, 2, none⟩ (.int .i64 b)).setCell ⟨w.heap.size + 1, 3, none⟩ (.int .i64 c)).setCell ⟨w.heap.size + 1, 4, none⟩ (.slice au g.len cu))) := Lib.hid
    ((((((HA5.out.setCell (by simp only; omega) _).setCell (by simp only; omega) _).setCell (by simp only; omega) _).setCell (by simp only; omega) _).setCell (by simp only; omega) _).setCell (by simp only; omega) _)
  have hZ : Hid (((((((w5.setCell ⟨w.heap.size + 1 + 1, 4, none⟩ (.slice au g.len cu)).setCell ⟨w.heap.size + 1, 0, none⟩ (.int .i64 k)).setCell ⟨w.heap.size + 1, 1, none⟩ (.int .i64 a)).setCell ⟨w.heap.size + 1, 2, none⟩ (.int .i64 b)).setCell ⟨w.heap.size + 1, 3, none⟩ (.int .i64 c)).setCell ⟨w.heap.size + 1, 4, none⟩ (.slice au g.len cu)).heap.size = w5.heap.size) := Lib.hid (by simp [World.setCell])
  go_wp2_with fail
  obtain ⟨z0, z1, z2, z3, z4⟩ := H1.out.cells
  refine bodyPost_ret (v := .agg #[.int .i64 k, .int .i64 a, .int .i64 b, .int .i64 c, .slice au g.len cu]) (by simp [results, Try.results13, go_sem, z0, z1, z2, z3, z4]) rfl ⟨_, rfl, ?_, hF.out⟩
  exact (HU.out.of_same (Nat.le_of_eq hZ.out.symm) (fun b' h1 _ => hE.out b' h1)).mono hS4 (Nat.le_of_eq hZ.out.symm) (Nat.le_refl _)

theorem to_any (g : FL) (IH : ∀ g' : FL, g'.sz < g.sz → ToOk g') : ToOk g := by
  intro v w h hsz
  obtain ⟨ad, cap, rfl, hc, hm, hcell⟩ := h.cells
  have HCe := Lib.hid hcell
  have HI := Lib.hid IH
  have hlz := len_le_sz g
  obtain ⟨i0, hi, hz0, hz1, hz2⟩ := info_parts fmInfo
  obtain ⟨w1, hmk, hown, hgrow⟩ := run_make_full (P := Try.prog) w w.heap.size 30 32 i0 (.agg #[.int .i64 0, .int .i64 0, .int .i64 0, .int .i64 0, .slice none 0 0]) 5 Try.underlying30 hi hz0 hz1 .i64 .i64 g.len (by rw [hz2]; omega) (by unfold maxLen; omega) (Nat.le_refl _)
  have hb1 : Below w.heap.size w w1 := (Below.refl _ _).grown hgrow (Nat.le_refl _) (fun k hk => by simp at hk)
  have hsz1 : w.heap.size < w1.heap.size := (hown.lt _ rfl).2
  have HO : Hid (∃ (C : List Value) (P : FL), C.length = g.len * 5 ∧ P.app (FL.drop 0 g) = g ∧ P.len = 0 ∧ w1.ownsRow w.heap.size 32 5 (.slice (some ⟨w.heap.size, 0, none⟩) g.len g.len) g.len C ∧ OwnL w.heap.size w1.heap.size w1 P (C.take (0 * 5)) (some w.heap.size)) :=
    ⟨_, FL.nil, hown.1, rfl, rfl, hown, by rw [Nat.zero_mul, List.take_zero]; exact OwnL.empty _ _ _⟩
  clear h hcell IH hi hz0 hz1 hz2 hgrow hown
  unfold maxLen at hm
  have HN : Hid (FL.drop g.len g = FL.nil) := Lib.hid (FL.drop_end g)
  generalize hn : g.len = n at *
  have HL := Lib.hid hn
  clear hn
  go_enter Try.func32, Try.ntmps32
  go_wp2_with fail
  go_loopw [4] (fun i wr => ∃ j : Nat, j ≤ n ∧ i = .int .i64 j ∧ Hid (Below w.heap.size w wr) ∧ w.heap.size < wr.heap.size ∧ Hid (∃ (C : List Value) (P : FL), C.length = n * 5 ∧ P.app (FL.drop j g) = g ∧ P.len = j ∧ wr.ownsRow w.heap.size 32 5 (.slice (some ⟨w.heap.size, 0, none⟩) n n) n C ∧ OwnL w.heap.size wr.heap.size wr P (C.take (j * 5)) (some w.heap.size))) (fun i _ => n - (intOf i).toNat)
  case atStart => exact ⟨0, by omega, rfl, Lib.hid hb1, hsz1, HO⟩
  case round =>
    clear HO
    obtain ⟨j, hj, rfl, HB, hs, HM⟩ := hrel
    by_cases hlt : j < n
    · obtain ⟨b, off, rfl, _, hb, hat⟩ := HCe.out (by omega)
      obtain ⟨k, x1, x2, x3, f, r, hd1, hd2⟩ := FL.drop_at j g (by have := HL.out; omega)
      obtain ⟨u, c0, c1, c2, c3, c4, hk⟩ := hat j k x1 x2 x3 f r hd1
      rw [← (bcell HB.out).1 _ _ hb] at c0 c1 c2 c3 c4
      have HS := Lib.hid (to_step (HI.out f (sz_kid hd1)) k x1 x2 x3 u wr (hk.below HB.out) (by have := sz_kid hd1; omega))
      obtain ⟨ad, cap', rfl, _⟩ := hk.cells
      have HD := Lib.hid (And.intro hd1 hd2)
      clear hat hk hd1 hd2
      unfold fmV at HS
      go_wp2_with fail
      refine HS.out.mono ?_
      rintro e w3 ⟨u, rfl, ou, b3⟩
      have HB3 := Lib.hid (HB.out.trans (b3.mono HB.out.size))
      have hs3 : w.heap.size < w3.heap.size := Nat.lt_of_lt_of_le hs b3.size
      obtain ⟨au, cu, rfl, _⟩ := ou.shape
      obtain ⟨C, P, hCl, hPa, hPl, hCo, hL⟩ := HM.out
      have hL3 := (hL.below b3).snoc (k := k) (a := x1) (b := x2) (c := x3) ou (Nat.le_of_lt hs) b3.size (fun i hi => by injection hi with hi; omega)
      have hCo3 : w3.ownsRow w.heap.size 32 5 (.slice (some ⟨w.heap.size, 0, none⟩) n n) n C := ((ownC_of hCo).below b3).row
      obtain ⟨o0, ho0⟩ : ∃ u, C[j * 5]? = some u := ⟨_, List.getElem?_eq_getElem (by omega)⟩
      obtain ⟨o1, ho1⟩ : ∃ u, C[j * 5 + 1]? = some u := ⟨_, List.getElem?_eq_getElem (by omega)⟩
      obtain ⟨o2, ho2⟩ : ∃ u, C[j * 5 + 2]? = some u := ⟨_, List.getElem?_eq_getElem (by omega)⟩
      obtain ⟨o3, ho3⟩ : ∃ u, C[j * 5 + 3]? = some u := ⟨_, List.getElem?_eq_getElem (by omega)⟩
      obtain ⟨o4, ho4⟩ : ∃ u, C[j * 5 + 4]? = some u := ⟨_, List.getElem?_eq_getElem (by omega)⟩
      have d0 : w3.cell? ⟨w.heap.size, j * 5, none⟩ = some o0 := (hCo3.cellAt (j * 5) (by omega)).trans ho0
      have d1 : w3.cell? ⟨w.heap.size, j * 5 + 1, none⟩ = some o1 := (hCo3.cellAt (j * 5 + 1) (by omega)).trans ho1
      have d2 : w3.cell? ⟨w.heap.size, j * 5 + 2, none⟩ = some o2 := (hCo3.cellAt (j * 5 + 2) (by omega)).trans ho2
      have d3 : w3.cell? ⟨w.heap.size, j * 5 + 3, none⟩ = some o3 := (hCo3.cellAt (j * 5 + 3) (by omega)).trans ho3
      have d4 : w3.cell? ⟨w.heap.size, j * 5 + 4, none⟩ = some o4 := (hCo3.cellAt (j * 5 + 4) (by omega)).trans ho4
      have f0 : w3.frozen? ⟨w.heap.size, j * 5, none⟩ = false := hCo3.frozenAt _
      have f1 : w3.frozen? ⟨w.heap.size, j * 5 + 1, none⟩ = false := hCo3.frozenAt _
      have f2 : w3.frozen? ⟨w.heap.size, j * 5 + 2, none⟩ = false := hCo3.frozenAt _
      have f3 : w3.frozen? ⟨w.heap.size, j * 5 + 3, none⟩ = false := hCo3.frozenAt _
      have f4 : w3.frozen? ⟨w.heap.size, j * 5 + 4, none⟩ = false := hCo3.frozenAt _
      have HB4 := Lib.hid (((((HB3.out.setCell (p := ⟨w.heap.size, j * 5, none⟩) (Nat.le_refl _) (.int .i64 k)).setCell (p := ⟨w.heap.size, j * 5 + 1, none⟩) (Nat.le_refl _) (.int .i64 x1)).setCell (p := ⟨w.heap.size, j * 5 + 2, none⟩) (Nat.le_refl _) (.int .i64 x2)).setCell (p := ⟨w.heap.size, j * 5 + 3, none⟩) (Nat.le_refl _) (.int .i64 x3)).setCell (p := ⟨w.heap.size, j * 5 + 4, none⟩) (Nat.le_refl _) (.slice au f.len cu))
      have HS4 : Hid (∃ (C : List Value) (P : FL), C.length = n * 5 ∧ P.app (FL.drop (j + 1) g) = g ∧ P.len = j + 1 ∧ (((((w3.setCell ⟨w.heap.size, j * 5, none⟩ (.int .i64 k)).setCell ⟨w.heap.size, j * 5 + 1, none⟩ (.int .i64 x1)).setCell ⟨w.heap.size, j * 5 + 2, none⟩ (.int .i64 x2)).setCell ⟨w.heap.size, j * 5 + 3, none⟩ (.int .i64 x3)).setCell ⟨w.heap.size, j * 5 + 4, none⟩ (.slice au f.len cu)).ownsRow w.heap.size 32 5 (.slice (some ⟨w.heap.size, 0, none⟩) n n) n C ∧
          OwnL w.heap.size (((((w3.setCell ⟨w.heap.size, j * 5, none⟩ (.int .i64 k)).setCell ⟨w.heap.size, j * 5 + 1, none⟩ (.int .i64 x1)).setCell ⟨w.heap.size, j * 5 + 2, none⟩ (.int .i64 x2)).setCell ⟨w.heap.size, j * 5 + 3, none⟩ (.int .i64 x3)).setCell ⟨w.heap.size, j * 5 + 4, none⟩ (.slice au f.len cu)).heap.size (((((w3.setCell ⟨w.heap.size, j * 5, none⟩ (.int .i64 k)).setCell ⟨w.heap.size, j * 5 + 1, none⟩ (.int .i64 x1)).setCell ⟨w.heap.size, j * 5 + 2, none⟩ (.int .i64 x2)).setCell ⟨w.heap.size, j * 5 + 3, none⟩ (.int .i64 x3)).setCell ⟨w.heap.size, j * 5 + 4, none⟩ (.slice au f.len cu)) P (C.take ((j + 1) * 5)) (some w.heap.size)) := Lib.hid (by
        refine ⟨((((C.set (j * 5) (.int .i64 k)).set (j * 5 + 1) (.int .i64 x1)).set (j * 5 + 2) (.int .i64 x2)).set (j * 5 + 3) (.int .i64 x3)).set (j * 5 + 4) (.slice au f.len cu), P.app (cons k x1 x2 x3 f nil), by simpa using hCl, ?_, by rw [len_app, hPl]; rfl, ?_, ?_⟩
        · rw [HD.out.2, app_assoc]
          show P.app (cons k x1 x2 x3 f r) = g
          rw [← HD.out.1]; exact hPa
        · exact (((((hCo3.stored (j * 5) (.int .i64 k)).1.stored (j * 5 + 1) (.int .i64 x1)).1.stored (j * 5 + 2) (.int .i64 x2)).1.stored (j * 5 + 3) (.int .i64 x3)).1.stored (j * 5 + 4) (.slice au f.len cu)).1
        · rw [list_set5 C j (by omega)]
          have hz : (((((w3.setCell ⟨w.heap.size, j * 5, none⟩ (.int .i64 k)).setCell ⟨w.heap.size, j * 5 + 1, none⟩ (.int .i64 x1)).setCell ⟨w.heap.size, j * 5 + 2, none⟩ (.int .i64 x2)).setCell ⟨w.heap.size, j * 5 + 3, none⟩ (.int .i64 x3)).setCell ⟨w.heap.size, j * 5 + 4, none⟩ (.slice au f.len cu)).heap.size = w3.heap.size := by simp [World.setCell]
          refine (hL3.of_same (Nat.le_of_eq hz.symm) (fun b' _ _ hx => ?_)).mono (Nat.le_refl _) (Nat.le_of_eq hz.symm) (Nat.le_refl _)
          have hne : b' ≠ w.heap.size := fun e => hx (by rw [e])
          rw [Below.heap_setCell _ _ _ _ (by simpa using hne), Below.heap_setCell _ _ _ _ (by simpa using hne), Below.heap_setCell _ _ _ _ (by simpa using hne), Below.heap_setCell _ _ _ _ (by simpa using hne), Below.heap_setCell _ _ _ _ (by simpa using hne)])
      clear HB b3 HB3 ho0 ho1 ho2 ho3 ho4 HM hCl hPa hPl hCo hCo3 hL hL3 c0 c1 c2 c3 c4 HS ou HD
      go_wp2_with fail
      go_roundw
      case rel => exact ⟨j + 1, by omega, by go_num, HB4, by simpa [World.setCell] using hs3, HS4⟩
      case measure => simp [intOf]; omega
    · obtain rfl : j = n := by omega
      go_wp2_with fail
      go_ret
      obtain ⟨C, P, hCl, hPa, hPl, hCo, hL⟩ := HM.out
      rw [HN.out, app_nil] at hPa
      subst hPa
      rw [List.take_of_length_le (by omega)] at hL
      exact ⟨_, rfl, OwnFm.of_row hCo HL.out.symm hL (Nat.le_refl _), HB.out⟩
theorem toOk_all : ∀ (n : Nat) (g : FL), g.sz < n → ToOk g := by
  intro n
  induction n with
  | zero => intro g h; omega
  | succ n ih => intro g h; exact to_any g (fun g' h' => ih g' (by omega))
theorem toFm_any {g : FL} (k a b c : Int) (v : Value) (w : World) (h : Kids AllS w v g) (hsz : g.sz ≤ 1048576) :
    Calls Try.prog 13 #[fmV k a b c v] w fun e w' => ∃ u, e = .returned (fmV k a b c u) ∧ OwnFm w.heap.size w'.heap.size w' u g ∧ Below w.heap.size w w' :=
  to_step (toOk_all _ g (Nat.lt_succ_self _)) k a b c v w h hsz
end Go.Proofs.Ytdloeiaaokhniaa

/- Rows of entries and of numbers appended to inside a region; an entry pushed behind others. -/
import Derived.Test.YtflnbpiegcepcaaDoorIdxColS
namespace Go.Proofs.YtflnbpiegcepcaaDoor
open Go.RowKit
set_option maxHeartbeats 2000000
set_option maxRecDepth 100000
set_option linter.unusedVariables false

theorem step_append_sl {ops : Array Oper} {o : Oper} {a : Act} {K : Act → World → Prop} {Q : Exit → Act → World → Prop} {E : Prop} {w : World} (hgd : o.guard = none) (s x : Operand)
    (ho : o.op = .call { callee := .builtin .append, args := #[s, x], argTypes := #[22, 22] }) (B : Nat) (v vx : Value) (n : Nat) (L M : List Int)
    (hown : w.ownsRow B 3 1 v n (L.map (Value.int .i64))) (hs : a.eval s = v) (hx : a.eval x = vx) (hox : SlI w vx M) (h63 : n + M.length ≤ 1000000000) (hbase : B ≤ w.heap.size)
    (h : ∀ v' w', w'.ownsRow B 3 1 v' (n + M.length) ((L ++ M).map (Value.int .i64)) → w.grownBy w' v.ownBlock → K (a.put o.dst v') w') :
    if Region.wanted o (yielded ops a.tmps) = true then Oper.wp Tryd.prog o a w K Q else E := by
  have hw : Region.wanted o (yielded ops a.tmps) = true := by simp [Region.wanted, hgd]
  rw [if_pos hw]
  obtain ⟨i0, hi0, hz0, hz1, hz2⟩ := info_parts intInfo
  obtain ⟨ad, cap, rfl, h1, h2, h3⟩ := hox
  cases ad with
  | none =>
    rcases h3 with rfl | ⟨b, off, e, _⟩
    · have hrun := run_append_nilc (P := Tryd.prog) (w := w) B 22 o.type 3 i0 1 Tryd.underlying22 hi0 v n _ cap hown
      unfold Oper.wp
      simp [execOp, ho, resolve, invoke, builtin, hs, hx, hrun, Result.andThen]
      exact h v w (by simpa using hown) (World.grownBy.refl _ _)
    · cases e
  | some ad =>
    refine wp_append_own _ s x 22 ho B 3 i0 (.int .i64 0) 1 8 Tryd.underlying22 hi0 hz0 hz1 hz2 rfl (by decide) v n _ hs hown ad M.length cap (M.map (Value.int .i64)) hx (by simp) ?_ (by intro u hu; obtain ⟨z, _, rfl⟩ := List.mem_map.1 hu; rfl) (by unfold maxLen; omega) (by omega) hbase ?_
    · intro j u hj
      have hlt : j < M.length := by
        rcases Nat.lt_or_ge j M.length with h | h
        · exact h
        · rw [List.getElem?_eq_none (by simpa using h)] at hj; cases hj
      rcases h3 with rfl | ⟨b, off, e, hb, hc⟩
      · simp at hlt
      · injection e with e; subst e
        have e : (⟨b, off, none⟩ : Addr).add j = ⟨b, off + j, none⟩ := by unfold Addr.add; split <;> simp_all
        rw [e, hc j hlt, ← hj, getD_map_int M j hlt]
    · intro v' w' h4 h5 _
      exact h v' w' (by simpa using h4) h5
theorem step_append_ent {w : World} {ops : Array Oper} {o : Oper} {a : Act} {K : Act → World → Prop} {Q : Exit → Act → World → Prop} {E : Prop} (hgd : o.guard = none) (s x : Operand)
    (ho : o.op = .call { callee := .builtin .append, args := #[s, x], argTypes := #[35, 35] }) (B : Nat) (v : Value) (n : Nat) (xs : List Value)
    (hown : w.ownsRow B 40 2 v n xs) (hs : a.eval s = v) (ad : Addr) (m c : Nat) (news : List Value) (hx : a.eval x = .slice (some ad) m c) (hl : news.length = m * 2) (hnews : ∀ j u, news[j]? = some u → w.cell? (ad.add j) = some u) (h1 : ∀ u ∈ news, u.oneCell' = true)
    (h63 : n + m ≤ 2000000) (hbase : B ≤ w.heap.size)
    (h : ∀ v' w', w'.ownsRow B 40 2 v' (n + m) (xs ++ news) → w.grownBy w' v.ownBlock → (∀ k, v'.ownBlock = some k → v.ownBlock = some k ∨ w.heap.size ≤ k) → K (a.put o.dst v') w') :
    if Region.wanted o (yielded ops a.tmps) = true then Oper.wp Tryd.prog o a w K Q else E := by
  have hw : Region.wanted o (yielded ops a.tmps) = true := by simp [Region.wanted, hgd]
  rw [if_pos hw]
  obtain ⟨v', w', hr, h2, h3, h4⟩ := run_append_ent (w := w) o.type B v n xs hown ad m c news hl hnews h1 h63 hbase
  unfold Oper.wp execOp
  simp only [ho, resolve, invoke, builtin, Sem.run_bind, Sem.run_pure, Result.andThen_ok, List.map_toArray, List.map_cons, List.map_nil, hs, hx, hr]
  exact h v' w' h2 h3 h4

theorem xE_append (X Y : List XE) : xE (X ++ Y) = xE X ++ xE Y := by simp [xE]
/-- An entry pushed behind the others; its pages lie in a block of their own. -/
theorem OwnX.pushed {lo m : Nat} {w w' : World} {v v' vp : Value} {X : List XE} {s : ByteArray} {P : List Int} (h : OwnX lo w v X) (hp : OwnI m w.heap.size w vp P) (hm : lo ≤ m) (hX : ∀ b ∈ xB X, b < m) (hv : ∀ b, v.ownBlock = some b → b < m)
    (hr : w'.ownsRow lo 40 2 v' (X.length + 1) (xC X ++ [.string s, vp])) (hg : w.grownBy w' v.ownBlock) (hx : ∀ k, v'.ownBlock = some k → v.ownBlock = some k ∨ w.heap.size ≤ k) :
    OwnX lo w' v' (X ++ [((s, P), vp)]) := by
  have hl : (X ++ [((s, P), vp)]).length = X.length + 1 := by simp
  have hc : xC (X ++ [((s, P), vp)]) = xC X ++ [.string s, vp] := by rw [xC_append]; rfl
  refine ⟨by rw [hl, hc]; exact hr, ?_⟩
  have hpl : ∀ b, vp.ownBlock = some b → m ≤ b ∧ b < w.heap.size := fun b hb => hp.row.lt b hb
  have hvp : ∀ b, vp.ownBlock = some b → some b ≠ v.ownBlock := fun b hb e => by
    have h1 := hv b e.symm; have := (hpl b hb).1; omega
  have h1 : PgOwn lo w'.heap.size w' v'.ownBlock X := h.pg.same (fun b hb => hg.block b (h.pg.top b hb).1 (h.pg.top b hb).2) hg.size (Nat.le_refl _) (fun b hb e => by
    rcases hx b e.symm with e2 | e2
    · exact (h.pg.top b hb).2 e2.symm
    · have := (h.pg.top b hb).1; omega)
  have h2 := h1.insert X.length ((s, P), vp) (row_same (row_low hp.row hm) (fun k hk => hg.block k (hpl k hk).2 (hvp k hk))) (Nat.le_refl _) (Nat.le_refl _) (fun b hb => ⟨Nat.lt_of_lt_of_le (hpl b hb).2 hg.size, fun e => by
      rcases hx b e.symm with e2 | e2
      · exact hvp b hb e2.symm
      · have := (hpl b hb).2; omega, fun hm2 => by have h1 := hX b hm2; have := (hpl b hb).1; omega⟩)
  rw [List.take_length, List.drop_length] at h2
  exact h2
/-- A block of two cells, its own. -/
def Two (T : TypeId) (w : World) (b : Nat) (v0 v1 : Value) : Prop := w.ownsRow b T 2 (.slice (some ⟨b, 0, none⟩) 1 1) 1 [v0, v1]
theorem Two.lt {T : TypeId} {w : World} {b : Nat} {v0 v1 : Value} (h : Two T w b v0 v1) : b < w.heap.size := (World.ownsRow.lt h b rfl).2
theorem Two.c0 {T : TypeId} {w : World} {b : Nat} {v0 v1 : Value} (h : Two T w b v0 v1) : w.cell? ⟨b, 0, none⟩ = some v0 := World.ownsRow.cellAt h 0 (by omega)
theorem Two.c1 {T : TypeId} {w : World} {b : Nat} {v0 v1 : Value} (h : Two T w b v0 v1) : w.cell? ⟨b, 1, none⟩ = some v1 := World.ownsRow.cellAt h 1 (by omega)
theorem Two.f0 {T : TypeId} {w : World} {b : Nat} {v0 v1 : Value} (h : Two T w b v0 v1) (k : Nat) : w.frozen? ⟨b, k, none⟩ = false := World.ownsRow.frozenAt h k
theorem Two.same {T : TypeId} {w w' : World} {b : Nat} {v0 v1 : Value} (h : Two T w b v0 v1) (hs : w'.heap[b]? = w.heap[b]?) : Two T w' b v0 v1 := by
  refine ⟨h.1, ?_⟩
  rcases h.2 with h0 | ⟨g, cap, cur, e, h1, h2, h3⟩
  · exact .inl h0
  · injection e with e1 _ e3
    injection e1 with e1
    injection e1 with e1
    subst e1
    exact .inr ⟨b, cap, cur, by rw [e3], h1, by rw [hs]; exact h2, h3⟩
theorem Two.below {T : TypeId} {w w' : World} {b : Nat} {v0 v1 : Value} (h : Two T w b v0 v1) (hb : Below w.heap.size w w') : Two T w' b v0 v1 := h.same (hb.block b h.lt)
theorem Two.new (T : TypeId) (w : World) (v0 v1 : Value) : Two T (w.alloc (.cells #[v0, v1] T)) w.heap.size v0 v1 := World.ownsRow_lit w #[v0, v1] 1 (Nat.le_refl _) (by decide) rfl
theorem Two.set0 {T : TypeId} {w : World} {b : Nat} {v0 v1 : Value} (h : Two T w b v0 v1) (u : Value) : Two T (w.setCell ⟨b, 0, none⟩ u) b u v1 := (World.ownsRow.stored h 0 u).1
theorem Two.set1 {T : TypeId} {w : World} {b : Nat} {v0 v1 : Value} (h : Two T w b v0 v1) (u : Value) : Two T (w.setCell ⟨b, 1, none⟩ u) b v0 u := (World.ownsRow.stored h 1 u).1
/-- An entry in a box of its own, with pages of its own, all made from block m on. -/
structure XBox (m : Nat) (w0 w : World) (b : Nat) (s : ByteArray) (vp : Value) (P : List Int) : Prop where
  bel : Below m w0 w
  lo : m ≤ b
  box : Two 40 w b (.string s) vp
  pg : OwnI m w.heap.size w vp P
  ne : vp.ownBlock ≠ some b
theorem setCell_size (w : World) (a : Addr) (v : Value) : (w.setCell a v).heap.size = w.heap.size := by simp [World.setCell]
/-- Both fields of a box stored. -/
theorem XBox.both {m b : Nat} {w0 w : World} {s : ByteArray} {vp v0 v1 : Value} {P : List Int} (hb : Below m w0 w) (hlo : m ≤ b) (h : Two 40 w b v0 v1) (hp : OwnI m w.heap.size w vp P) (hne : vp.ownBlock ≠ some b) :
    XBox m w0 ((w.setCell ⟨b, 0, none⟩ (.string s)).setCell ⟨b, 1, none⟩ vp) b s vp P := by
  have hz : ((w.setCell ⟨b, 0, none⟩ (.string s)).setCell ⟨b, 1, none⟩ vp).heap.size = w.heap.size := by rw [setCell_size, setCell_size]
  refine ⟨(hb.setCell hlo _).setCell hlo _, hlo, (h.set0 _).set1 _, ⟨row_same hp.row (fun k hk => ?_), fun k hk => by rw [hz]; exact hp.top k hk, by rw [hz]; exact Nat.le_refl _⟩, hne⟩
  have hkb : k ≠ b := fun e => hne (by rw [hk, e])
  exact (Below.heap_setCell _ _ _ _ (by simpa using hkb)).trans (Below.heap_setCell _ _ _ _ (by simpa using hkb))
/-- The pages of a box stored. -/
theorem XBox.paged {m b : Nat} {w0 w w' : World} {s : ByteArray} {vp vp' : Value} {P P' : List Int} (h : XBox m w0 w b s vp P) (hb : Below w.heap.size w w') (hm : m ≤ w.heap.size) (hp : (vp' = vp ∧ P' = P) ∨ OwnI w.heap.size w'.heap.size w' vp' P') :
    XBox m w0 (w'.setCell ⟨b, 1, none⟩ vp') b s vp' P' := by
  have hlt := h.box.lt
  have hz : (w'.setCell ⟨b, 1, none⟩ vp').heap.size = w'.heap.size := setCell_size _ _ _
  have hr : vp'.ownBlock ≠ some b ∧ OwnI m w'.heap.size w' vp' P' := by
    rcases hp with ⟨rfl, rfl⟩ | hp
    · exact ⟨h.ne, (h.pg.below hb).mono (Nat.le_refl _) hb.size (Nat.le_refl _)⟩
    · exact ⟨fun e => by have := (hp.row.lt b e).1; omega, hp.mono hm (Nat.le_refl _) (Nat.le_refl _)⟩
  refine ⟨(h.bel.trans (hb.mono hm)).setCell h.lo _, h.lo, (h.box.below hb).set1 _, ⟨row_same hr.2.row (fun k hk => ?_), fun k hk => by rw [hz]; exact hr.2.top k hk, by rw [hz]; exact Nat.le_refl _⟩, hr.1⟩
  exact Below.heap_setCell _ _ _ _ (by simpa using fun e : k = b => hr.1 (by rw [hk, e]))
theorem row_two_ne {B n b : Nat} {w : World} {v u0 u1 : Value} {xs : List Value} (h : w.ownsRow B 3 1 v n xs) (k : Two 40 w b u0 u1) : v.ownBlock ≠ some b := by
  intro e
  rcases h.2 with ⟨rfl, _⟩ | ⟨g, cap, cur, rfl, _, h2, _⟩
  · cases e
  · have hg : g = b := by injection e
    subst hg
    rcases k.2 with ⟨e2, _⟩ | ⟨g', cap', cur', e2, _, h3, _⟩
    · injection e2 with e2 _ _; cases e2
    · injection e2 with e2 _ _
      injection e2 with e2
      injection e2 with e2
      subst e2
      rw [h2] at h3
      injection h3 with h3
      injection h3 with _ h4 _
      exact absurd h4 (by decide)
theorem XBox.drew {m b : Nat} {w0 w : World} {s : ByteArray} {vp : Value} {P : List Int} (h : XBox m w0 w b s vp P) : XBox m w0 w.drew b s vp P :=
  ⟨h.bel.drew, h.lo, h.box.same rfl, h.pg.drewN 1, h.ne⟩
theorem uni_take {P Q : List Int} {x : Nat} (h : x < Q.length) : uni P (Q.take (x + 1)) = addN (uni P (Q.take x)) (Q.getD x 0) := by
  unfold uni
  rw [List.take_succ_eq_append_getElem h, List.foldl_append]
  simp [List.getD_eq_getElem?_getD, h]
end Go.Proofs.YtflnbpiegcepcaaDoor

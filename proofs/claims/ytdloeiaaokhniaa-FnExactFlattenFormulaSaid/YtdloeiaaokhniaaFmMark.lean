/- Numbers laid over kids in memory of the call's own, and read back. -/
import Derived.Test.YtdloeiaaokhniaaFmOwn
namespace Go.Proofs.Ytdloeiaaokhniaa
open Go.RowKit
open FL
set_option maxHeartbeats 1000000
set_option maxRecDepth 100000
set_option linter.unusedVariables false

/-- The numbers from n on, in the order of the walk. -/
def mkF : Int → FL → FL
  | _, nil => nil
  | n, cons _ _ _ _ g r => cons n (n + 1) (n + 2) (n + 3) (mkF (n + 4) g) (mkF (n + 4 + 4 * (g.sz : Int)) r)
theorem mkF_len : ∀ (n : Int) (g : FL), (mkF n g).len = g.len
  | _, nil => rfl
  | n, cons _ _ _ _ g r => by rw [mkF, FL.len, FL.len, mkF_len]
theorem mkF_app : ∀ (n : Int) (f r : FL), mkF n (f.app r) = (mkF n f).app (mkF (n + 4 * (f.sz : Int)) r)
  | n, nil, r => by simp [mkF, FL.app, FL.sz]
  | n, cons k a b c g t, r => by
    rw [FL.app, mkF, mkF, FL.app, mkF_app, FL.sz]
    congr 3
    push_cast
    omega
theorem mkF_drop : ∀ (n : Int) (j : Nat) (g : FL), ∃ y : Int, FL.drop j (mkF n g) = mkF y (FL.drop j g) ∧ y + 4 * ((FL.drop j g).sz : Int) = n + 4 * (g.sz : Int) ∧ n ≤ y
  | n, 0, g => ⟨n, rfl, rfl, Int.le_refl _⟩
  | n, j + 1, nil => ⟨n, rfl, rfl, Int.le_refl _⟩
  | n, j + 1, cons k a b c g r => by
    obtain ⟨y, h1, h2, h3⟩ := mkF_drop (n + 4 + 4 * (g.sz : Int)) j r
    refine ⟨y, ?_, ?_, by omega⟩
    · rw [mkF, FL.drop, FL.drop, h1]
    · rw [FL.drop, h2, FL.sz]; push_cast; omega

/-- All is as before but the blocks bs. -/
structure Kpt (bs : List Nat) (w w' : World) : Prop where
  bel : Below 0 w w'
  same : ∀ b, b < w.heap.size → b ∉ bs → w'.heap[b]? = w.heap[b]?
theorem Kpt.refl (bs : List Nat) (w : World) : Kpt bs w w := ⟨Below.refl _ _, fun _ _ _ => rfl⟩
theorem Kpt.trans {bs : List Nat} {a b c : World} (h : Kpt bs a b) (k : Kpt bs b c) : Kpt bs a c :=
  ⟨h.bel.trans k.bel, fun x hx hn => (k.same x (Nat.lt_of_lt_of_le hx h.bel.size) hn).trans (h.same x hx hn)⟩
theorem Kpt.wide {bs cs : List Nat} {a b : World} (h : Kpt bs a b) (hs : ∀ x ∈ bs, x ∈ cs) : Kpt cs a b := ⟨h.bel, fun x hx hn => h.same x hx (fun hm => hn (hs x hm))⟩
theorem Kpt.set {bs : List Nat} {a w : World} (h : Kpt bs a w) {b : Nat} (hb : b ∈ bs) (o : Nat) (u : Value) : Kpt bs a (w.setCell ⟨b, o, none⟩ u) :=
  ⟨h.bel.setCell (Nat.zero_le _) _, fun x hx hn => (Below.heap_setCell _ _ _ _ (fun e => hn (by simp only at e; rw [e]; exact hb))).trans (h.same x hx hn)⟩
theorem Kpt.below {bs : List Nat} {a w : World} (h : Kpt bs a w) {B : Nat} (hB : B ≤ a.heap.size) (hs : ∀ b ∈ bs, B ≤ b) : Below B a w :=
  ⟨h.bel.os, h.bel.tape, h.bel.output, h.bel.size, fun k hk => h.same k (by omega) (fun hm => by have := hs k hm; omega)⟩

/-- A row of cells in a block. -/
structure RowB (w : World) (b off : Nat) (L : List Value) : Prop where
  lt : b < w.heap.size
  free : ∀ j, w.frozen? ⟨b, off + j, none⟩ = false
  at_ : ∀ j, j < L.length → w.cell? ⟨b, off + j, none⟩ = L[j]?
theorem RowB.mono {w w' : World} {b off : Nat} {L : List Value} (h : RowB w b off L) (hz : w.heap.size ≤ w'.heap.size) (hs : w'.heap[b]? = w.heap[b]?) : RowB w' b off L :=
  ⟨Nat.lt_of_lt_of_le h.lt hz, fun j => by rw [World.frozen?_of_block (w := w) hs]; exact h.free j, fun j hj => by rw [World.cell?_of_block (w := w) hs]; exact h.at_ j hj⟩
theorem RowB.put {w : World} {b off : Nat} {D E : List Value} {x : Value} (h : RowB w b off (D ++ x :: E)) (u : Value) : RowB (w.setCell ⟨b, off + D.length, none⟩ u) b off (D ++ u :: E) := by
  refine ⟨by simpa [World.setCell] using h.lt, fun j => by rw [World.frozen?_setCell]; exact h.free j, fun j hj => ?_⟩
  have hl : (D ++ x :: E).length = (D ++ u :: E).length := by simp
  by_cases e : j = D.length
  · subst e
    have h0 : w.cell? ⟨b, off + D.length, none⟩ = some x := by rw [h.at_ _ (by simp)]; simp
    rw [World.cell?_setCell_same _ _ _ h0]; simp
  · rw [World.cell?_setCell_other _ _ _ _ (fun e' => e (by injection e' with _ e2 _; omega)), h.at_ j (by omega)]
    by_cases hjl : j < D.length
    · rw [List.getElem?_append_left hjl, List.getElem?_append_left hjl]
    · rw [List.getElem?_append_right (by omega), List.getElem?_append_right (by omega)]
      obtain ⟨t, ht⟩ : ∃ t, j - D.length = t + 1 := ⟨j - D.length - 1, by omega⟩
      rw [ht]; rfl
/-- Four cells written. -/
def set4 (w : World) (b o : Nat) (v0 v1 v2 v3 : Value) : World := (((w.setCell ⟨b, o, none⟩ v0).setCell ⟨b, o + 1, none⟩ v1).setCell ⟨b, o + 2, none⟩ v2).setCell ⟨b, o + 3, none⟩ v3
theorem RowB.put4 {w : World} {b off o : Nat} {D E : List Value} {x0 x1 x2 x3 : Value} (h : RowB w b off (D ++ x0 :: x1 :: x2 :: x3 :: E)) (ho : o = off + D.length) (v0 v1 v2 v3 : Value) :
    RowB (set4 w b o v0 v1 v2 v3) b off (D ++ v0 :: v1 :: v2 :: v3 :: E) := by
  subst ho
  have h1 := h.put v0
  rw [show D ++ v0 :: x1 :: x2 :: x3 :: E = (D ++ [v0]) ++ x1 :: x2 :: x3 :: E by simp] at h1
  have h2 := h1.put v1
  rw [show (D ++ [v0]) ++ v1 :: x2 :: x3 :: E = (D ++ [v0, v1]) ++ x2 :: x3 :: E by simp] at h2
  have h3 := h2.put v2
  rw [show (D ++ [v0, v1]) ++ v2 :: x3 :: E = (D ++ [v0, v1, v2]) ++ x3 :: E by simp] at h3
  have h4 := h3.put v3
  rw [show (D ++ [v0, v1, v2]) ++ v3 :: E = D ++ v0 :: v1 :: v2 :: v3 :: E by simp] at h4
  unfold set4
  simpa [Nat.add_assoc] using h4
theorem Kpt.set4 {bs : List Nat} {a w : World} (h : Kpt bs a w) {b : Nat} (hb : b ∈ bs) (o : Nat) (v0 v1 v2 v3 : Value) : Kpt bs a (set4 w b o v0 v1 v2 v3) :=
  (((h.set hb _ _).set hb _ _).set hb _ _).set hb _ _

theorem set4_same (w : World) (b o : Nat) (v0 v1 v2 v3 : Value) (k : Nat) (hk : k ≠ b) : (set4 w b o v0 v1 v2 v3).heap[k]? = w.heap[k]? := by
  unfold set4
  rw [Below.heap_setCell _ _ _ _ (by simpa using hk), Below.heap_setCell _ _ _ _ (by simpa using hk), Below.heap_setCell _ _ _ _ (by simpa using hk), Below.heap_setCell _ _ _ _ (by simpa using hk)]
theorem set4_size (w : World) (b o : Nat) (v0 v1 v2 v3 : Value) : (set4 w b o v0 v1 v2 v3).heap.size = w.heap.size := by unfold set4; simp [World.setCell]
theorem HdB.lt {w : World} {v : Value} {n : Nat} {D : List Value} {h : List Nat} (k : HdB w v n D h) : ∀ b ∈ h, b < w.heap.size := by
  obtain ⟨a, cap, rfl, _, _, h3⟩ := k
  rcases h3 with ⟨_, rfl⟩ | ⟨b, off, e, rfl, hb, _⟩
  · intro x hx; simp at hx
  · intro x hx; obtain rfl := List.mem_singleton.1 hx; exact hb
theorem InB.lt {w : World} : ∀ {g : FL} {C : List Value} {bs : List Nat}, InB w g C bs → ∀ b ∈ bs, b < w.heap.size
  | nil, C, bs, h => by obtain ⟨_, rfl⟩ := h; intro x hx; simp at hx
  | cons k a b c g r, C, bs, h => by
    obtain ⟨v, D, E, hh, p, q, e, rfl, h1, h2, h3⟩ := h
    intro x hx
    rcases List.mem_append.1 hx with hx | hx
    · rcases List.mem_append.1 hx with hx | hx
      · exact h1.lt x hx
      · exact h2.lt x hx
    · exact h3.lt x hx
theorem KidsB.lt {w : World} {v : Value} {g : FL} {bs : List Nat} (k : KidsB w v g bs) : ∀ b ∈ bs, b < w.heap.size := by
  obtain ⟨C, h, p, rfl, h1, h2⟩ := k
  intro x hx
  rcases List.mem_append.1 hx with hx | hx
  · exact h1.lt x hx
  · exact h2.lt x hx

/-- Midway: the kids f are numbered, the kids r are not. -/
structure Mid (w0 : World) (n : Int) (b off : Nat) (p : List Nat) (f r : FL) (wr : World) : Prop where
  ex : ∃ D E p1 p2, p = p1 ++ p2 ∧ RowB wr b off (D ++ E) ∧ InB wr (mkF n f) D p1 ∧ InB wr r E p2
  kept : Kpt (b :: p) w0 wr
theorem Mid.step {w0 wr : World} {n : Int} {b off : Nat} {p : List Nat} {f r h : FL} {k a b' c : Int} (m : Mid w0 n b off p f (cons k a b' c h r) wr) (hn : (b :: p).Nodup) :
    ∃ v q, (wr.cell? ⟨b, off + f.len * 5, none⟩ = some (.int .i64 k) ∧ wr.cell? ⟨b, off + f.len * 5 + 1, none⟩ = some (.int .i64 a) ∧ wr.cell? ⟨b, off + f.len * 5 + 2, none⟩ = some (.int .i64 b') ∧ wr.cell? ⟨b, off + f.len * 5 + 3, none⟩ = some (.int .i64 c) ∧ wr.cell? ⟨b, off + f.len * 5 + 4, none⟩ = some v) ∧
      (∀ j, wr.frozen? ⟨b, off + j, none⟩ = false) ∧ q.Nodup ∧
      ∀ y : Int, y = n + 4 * (f.sz : Int) → KidsB (set4 wr b (off + f.len * 5) (.int .i64 y) (.int .i64 (y + 1)) (.int .i64 (y + 2)) (.int .i64 (y + 3))) v h q ∧
        ∀ w2, KidsB w2 v (mkF (y + 4) h) q → Kpt q (set4 wr b (off + f.len * 5) (.int .i64 y) (.int .i64 (y + 1)) (.int .i64 (y + 2)) (.int .i64 (y + 3))) w2 → Mid w0 n b off p (f.app (cons k a b' c h nil)) r w2 := by
  obtain ⟨⟨D, E, p1, p2, rfl, hr, hD, hE⟩, hk⟩ := m
  obtain ⟨v, D', E', h1, q1, q2, rfl, rfl, j1, j2, j3⟩ := hE
  have hl : D.length = f.len * 5 := by rw [hD.len, mkF_len]
  have hc : ∀ t x, (D ++ .int .i64 k :: .int .i64 a :: .int .i64 b' :: .int .i64 c :: v :: E')[D.length + t]? = some x → wr.cell? ⟨b, off + f.len * 5 + t, none⟩ = some x := fun t x hx => by
    have hlt := (List.getElem?_eq_some_iff.1 hx).1
    rw [show off + f.len * 5 + t = off + (D.length + t) by omega, hr.at_ _ hlt, hx]
  have hg : ∀ t, (D ++ .int .i64 k :: .int .i64 a :: .int .i64 b' :: .int .i64 c :: v :: E')[D.length + t]? = (Value.int .i64 k :: .int .i64 a :: .int .i64 b' :: .int .i64 c :: v :: E')[t]? := fun t => by
    rw [List.getElem?_append_right (by omega), Nat.add_sub_cancel_left]
  obtain ⟨hbp, hnp⟩ := List.nodup_cons.1 hn
  obtain ⟨hn1, hn2, hn12⟩ := List.nodup_append.1 hnp
  obtain ⟨hn3, hn4, hn34⟩ := List.nodup_append.1 hn2
  have hne : ∀ x ∈ p1 ++ ((h1 ++ q1) ++ q2), x ≠ b := fun x hx e => hbp (e ▸ hx)
  have hK : KidsB wr v h (h1 ++ q1) := ⟨D', h1, q1, rfl, j1, j2⟩
  refine ⟨v, h1 ++ q1, ⟨hc 0 _ (by rw [hg]; rfl), hc 1 _ (by rw [hg]; rfl), hc 2 _ (by rw [hg]; rfl), hc 3 _ (by rw [hg]; rfl), hc 4 _ (by rw [hg]; rfl)⟩, hr.free, hn3, fun y hy => ⟨hK.mono (fun x hx => ⟨by rw [set4_size]; exact hK.lt x hx, set4_same _ _ _ _ _ _ _ _ (hne x (List.mem_append.2 (.inr (List.mem_append.2 (.inl hx)))))⟩), fun w2 hw2 hkp => ?_⟩⟩
  have hr4 := hr.put4 (o := off + f.len * 5) (by omega) (.int .i64 y) (.int .i64 (y + 1)) (.int .i64 (y + 2)) (.int .i64 (y + 3))
  have hk4 := hk.set4 (b := b) (by simp) (off + f.len * 5) (.int .i64 y) (.int .i64 (y + 1)) (.int .i64 (y + 2)) (.int .i64 (y + 3))
  have hz4 := set4_size wr b (off + f.len * 5) (.int .i64 y) (.int .i64 (y + 1)) (.int .i64 (y + 2)) (.int .i64 (y + 3))
  have hs4 := set4_same wr b (off + f.len * 5) (.int .i64 y) (.int .i64 (y + 1)) (.int .i64 (y + 2)) (.int .i64 (y + 3))
  generalize set4 wr b (off + f.len * 5) (.int .i64 y) (.int .i64 (y + 1)) (.int .i64 (y + 2)) (.int .i64 (y + 3)) = ws at *
  have hsame : ∀ x, x < wr.heap.size → x ≠ b → x ∉ h1 ++ q1 → w2.heap[x]? = wr.heap[x]? := fun x hx hxb hxq => (hkp.same x (by omega) hxq).trans (hs4 x hxb)
  have hz2 : wr.heap.size ≤ w2.heap.size := by have := hkp.bel.size; omega
  refine ⟨⟨D ++ [.int .i64 y, .int .i64 (y + 1), .int .i64 (y + 2), .int .i64 (y + 3), v], E', p1 ++ (h1 ++ q1), q2, by simp, ?_, ?_, ?_⟩, hk4.trans (hkp.wide (fun x hx => List.mem_cons_of_mem _ (List.mem_append.2 (.inr (List.mem_append.2 (.inl hx))))))⟩
  · have := hr4.mono hkp.bel.size (hkp.same b hr4.lt (fun hm => hne b (List.mem_append.2 (.inr (List.mem_append.2 (.inl hm)))) rfl))
    simpa using this
  · rw [mkF_app, ← hy, mkF]
    refine InB.app (hD.mono (fun x hx => ⟨Nat.lt_of_lt_of_le (hD.lt x hx) hz2, hsame x (hD.lt x hx) (hne x (List.mem_append.2 (.inl hx))) (fun hm => hn12 x hx x (List.mem_append.2 (.inl hm)) rfl)⟩)) ?_
    rw [show mkF (y + 4 + 4 * (h.sz : Int)) nil = nil by rfl]
    exact InB.one hw2
  · exact j3.mono (fun x hx => ⟨Nat.lt_of_lt_of_le (j3.lt x hx) hz2, hsame x (j3.lt x hx) (hne x (List.mem_append.2 (.inr (List.mem_append.2 (.inr hx))))) (fun hm => hn34 x hm x hx rfl)⟩)
theorem Mid.stop {w0 wr : World} {n : Int} {b off cap : Nat} {p : List Nat} {f : FL} (m : Mid w0 n b off p f nil wr) (hc : f.len ≤ cap) (hm : cap ≤ maxLen) : KidsB wr (.slice (some ⟨b, off, none⟩) f.len cap) (mkF n f) (b :: p) := by
  obtain ⟨⟨D, E, p1, p2, rfl, hr, hD, rfl, rfl⟩, hk⟩ := m
  have hl := hD.len
  rw [List.append_nil] at hr
  refine ⟨D, [b], p1, by simp, ⟨some ⟨b, off, none⟩, cap, by rw [mkF_len], by rw [mkF_len]; exact hc, hm, .inr ⟨b, off, rfl, rfl, hr.lt, hr.free, fun j hj => hr.at_ j (by omega)⟩⟩, hD⟩
theorem KidsB.mid {w : World} {v : Value} {g : FL} {bs : List Nat} (n : Int) (h : KidsB w v g bs) : ∃ a cap, v = .slice a g.len cap ∧ g.len ≤ cap ∧ cap ≤ maxLen ∧ ((g.len = 0 ∧ bs = []) ∨ ∃ b off p, a = some ⟨b, off, none⟩ ∧ bs = b :: p ∧ b < w.heap.size ∧ Mid w n b off p nil g w) := by
  obtain ⟨C, hh, p, rfl, ⟨a, cap, rfl, h1, h2, h3⟩, h4⟩ := h
  refine ⟨a, cap, rfl, h1, h2, ?_⟩
  rcases h3 with ⟨h3, rfl⟩ | ⟨b, off, rfl, rfl, hb, hf, hc⟩
  · cases g with
    | nil => obtain ⟨_, rfl⟩ := h4; exact .inl ⟨rfl, rfl⟩
    | cons => simp [FL.len] at h3
  · exact .inr ⟨b, off, p, rfl, rfl, hb, ⟨[], C, [], p, rfl, ⟨hb, hf, fun j hj => hc j (by have := h4.len; simp at hj; omega)⟩, ⟨rfl, rfl⟩, h4⟩, Kpt.refl _ _⟩
end Go.Proofs.Ytdloeiaaokhniaa

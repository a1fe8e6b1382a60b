/- A loop over an iterator that keeps its state in a box of its own. -/
import Derived.RangeFuncNested
import Derived.RangeFuncBound
import Derived.RangeFuncCalls
import Derived.RangeFuncLeaves
namespace Go.Proofs.YtckmkjkckadfjaaDoor
open Go.RowKit
set_option linter.unusedVariables false

/-- From A to B: of the blocks below lo and of all cells none has turned but the box sb. -/
structure Calm (lo sb : Nat) (A B : World) : Prop where
  os : B.os = A.os
  tape : B.tape = A.tape
  output : B.output = A.output
  size : A.heap.size ≤ B.heap.size
  block : ∀ j, j ≠ sb → (j < lo ∨ ∃ o, A.heap[j]? = some o ∧ o.isCells = true) → B.heap[j]? = A.heap[j]?
theorem Calm.of_below {lo sb : Nat} {A B : World} (h : Below A.heap.size A B) (hlo : lo ≤ A.heap.size) : Calm lo sb A B :=
  ⟨h.os, h.tape, h.output, h.size, fun j _ hj => by
    refine h.block j ?_
    rcases hj with hj | ⟨o, ho, _⟩
    · omega
    · exact (Array.getElem?_eq_some_iff.1 ho).1⟩
theorem Calm.of_alloc {lo sb : Nat} {A : World} (o : Obj) (hlo : lo ≤ A.heap.size) : Calm lo sb A (A.alloc o) :=
  .of_below ((Below.refl _ _).alloc (Nat.le_refl _) _) hlo
theorem Calm.of_setCell {lo sb : Nat} {A : World} (v : Value) : Calm lo sb A (A.setCell ⟨sb, 0, none⟩ v) :=
  ⟨rfl, rfl, rfl, by simp [World.setCell], fun j hj _ => Below.heap_setCell _ _ _ j hj⟩
theorem Calm.of_putObj {lo sb l : Nat} {A : World} {o : Obj} (o' : Obj) (hl : A.heap[l]? = some o) (ho : o.isCells = false) (hlo : lo ≤ l) : Calm lo sb A (A.putObj l o') :=
  ⟨rfl, rfl, rfl, by simp, fun j _ hj => by
    refine World.putObj_heap_other ?_
    rintro rfl
    rcases hj with hj | ⟨q, hq, hc⟩
    · omega
    · rw [hl] at hq; cases hq; rw [ho] at hc; cases hc⟩

/-- Between two rounds: the blocks below hi, but for ob, lie as they lay. -/
structure Still (hi ob : Nat) (A B : World) : Prop where
  size : A.heap.size ≤ B.heap.size
  block : ∀ j, j < hi → j ≠ ob → B.heap[j]? = A.heap[j]?
theorem Still.trans {hi ob : Nat} {A B C : World} (h : Still hi ob A B) (k : Still hi ob B C) : Still hi ob A C :=
  ⟨Nat.le_trans h.size k.size, fun j h1 h2 => (k.block j h1 h2).trans (h.block j h1 h2)⟩
theorem Still.of_putObj {hi ob l : Nat} {A : World} (o : Obj) (hl : hi ≤ l) : Still hi ob A (A.putObj l o) :=
  ⟨by simp, fun j h1 _ => World.putObj_heap_other (by omega)⟩

/-- What the iterator gf over lb does from w on: it hands out the strings of xs in their order, till a round says 'no more'; it stores into its box sb alone. -/
def SeqB (P : Program) (gf : Nat) (lb : Array Value) (sb ob : Nat) (xs : List ByteArray) (w : World) : Prop :=
  ∀ (l : Nat) (J : Nat → World → Prop) (Jx : World → Prop) (W : World), Below w.heap.size w W →
    (∀ k A B, J k A → Below A.heap.size A B → J k B) → (∀ k A v, J k A → J k (A.setCell ⟨sb, 0, none⟩ v)) →
    (∀ A B, Jx A → Below A.heap.size A B → Jx B) → (∀ A v, Jx A → Jx (A.setCell ⟨sb, 0, none⟩ v)) →
    (∀ k x W1, J k W1 → xs[k]? = some x → YieldAt Fence.wide 0 P l #[.string x] W1 fun e W' =>
      (e = .returned (.bool true) ∧ J (k + 1) W' ∧ Still w.heap.size ob W1 W') ∨ (e = .returned (.bool false) ∧ Jx W')) →
    J 0 W →
    CallsIn Fence.wide 0 P gf (#[.func (.yield l) #[] #[]] ++ lb) W fun e W' => (∃ v, e = .returned v) ∧ (J xs.length W' ∨ Jx W')

/-- How a round's body is left: off its end, or by a return. -/
def boxPost (lo hi ob : Nat) (I : World → Prop) (Ix : World → Prop) (W : World) : Exit → Act → World → Prop
  | .normal, _, W' => KeepsFrom lo W W' ∧ Still hi ob W W' ∧ I W'
  | .ret, _, W' => KeepsFrom lo W W' ∧ Ix W'
  | _, _, _ => False

theorem wpIn_range_box {P : Program} {g : Operand} {ps : Array Tmp} {assign body : Code} {Q : Exit → Act → World → Prop} {a : Act} {w : World} {gf : Nat} {lb : Array Value} {sb ob : Nat} {xs : List ByteArray}
    (hg : a.eval g = .func (.func gf) #[] lb) (eg : ∀ args w, (callFunc gf args).run P w = .ok (.enter gf args) w)
    (hseq : SeqB P gf lb sb ob xs w) (hsb : sb < w.heap.size) (hps : ps.size = 1)
    (I : Nat → World → Prop) (Ix : World → Prop) (hI : ∀ k A B, I k A → Calm w.heap.size sb A B → I k B) (hIx : ∀ A B, Ix A → Calm w.heap.size sb A B → Ix B) (h0 : I 0 w) (a₁ : ByteArray → Act)
    (hassign : ∀ (l : Nat) (x : ByteArray) (W : World) (K : Act → World → Prop), K (a₁ x) W →
      assign.wpIn (Fence.wide.inRound l) 0 P (Exit.then K (fun _ _ _ => False)) { tmps := (ps.zip #[Value.string x]).foldl (fun t (p, v) => t.setIfInBounds p v) a.tmps, defers := [] } W)
    (hbody : ∀ (l k : Nat) (x : ByteArray) (W : World), w.heap.size ≤ W.heap.size → xs[k]? = some x → I k W → body.wpIn (Fence.wide.inRound l) 0 P (boxPost w.heap.size w.heap.size ob (I (k + 1)) Ix W) (a₁ x) W)
    (hdone : ∀ (D : Nat) (W : World), w.heap.size ≤ D → I xs.length W → W.heap[D]? = some (.deferred (some [])) → Q .normal { a with defers := { target := .collected D, args := #[] } :: a.defers } W)
    (hstop : ∀ (D : Nat) (W : World), w.heap.size ≤ D → Ix W → W.heap[D]? = some (.deferred (some [])) → Code.ret.wpIn Fence.wide 0 P Q { a with defers := { target := .collected D, args := #[] } :: a.defers } W) :
    (Code.rangeFunc g ps assign body).wpIn Fence.wide 0 P Q a w := by
  refine wpIn_rangeFunc ?_
  intro fn hfn
  obtain ⟨lo, hlo⟩ : ∃ lo, w.heap.size = lo := ⟨_, rfl⟩
  obtain ⟨R, hR⟩ : ∃ R : LoopState → Option Code → Loop, R = fun st pe => { state := st, pending := pe, fn, tmps := a.tmps, params := ps, assign, body, defers := w.heap.size } := ⟨_, rfl⟩
  have hbusy : ∀ st pe, { R st pe with state := .busy } = R .busy pe := by intro st pe; rw [hR]
  have hend : ∀ st pe st' pe', { R st pe with state := st', pending := pe' } = R st' pe' := by intro st pe st' pe'; rw [hR]
  have henter : (Instr.enterLoop fn a.tmps ps assign body Fence.wide.round).run P w = .ok (w.heap.size + 1, [{ target := .collected w.heap.size, args := #[] }]) ((w.alloc (.deferred (some []))).alloc (.loop (R .ready none))) := by
    rw [hR]; exact run_enterLoop_outer _ _ _ _ _
  rw [hlo] at hR henter
  obtain ⟨W1, hW1⟩ : ∃ W1, (w.alloc (.deferred (some []))).alloc (.loop (R .ready none)) = W1 := ⟨_, rfl⟩
  have hb1 : Below w.heap.size w W1 := by rw [← hW1]; exact ((Below.refl _ w).alloc (Nat.le_refl _) _).alloc (by simp) _
  have hL1 : W1.heap[lo + 1]? = some (.loop (R .ready none)) := by
    rw [← hW1]; have := World.alloc_heap_new (w.alloc (.deferred (some []))) (.loop (R .ready none)); rwa [World.size_alloc, hlo] at this
  have hD1 : W1.heap[lo]? = some (.deferred (some [])) := by
    rw [← hW1]
    exact (Below.heap_alloc _ _ _ (by simp [hlo])).trans (by have := World.alloc_heap_new w (.deferred (some [])); rwa [hlo] at this)
  rw [hW1] at henter
  clear hW1
  have hlen : ∀ {W : World} {r : Loop}, W.heap[lo + 1]? = some (.loop r) → lo + 1 < W.heap.size := fun h => (Array.getElem?_eq_some_iff.1 h).1
  refine ⟨lo + 1, _, W1, { target := .fn (.func gf) lb, args := #[.func (.yield (lo + 1)) #[] #[]] }, W1, gf, #[.func (.yield (lo + 1)) #[] #[]] ++ lb, W1, henter, ?_, fun _ _ => trivial, ?_, fun h => (by cases h), ?_⟩
  · simp only [resolve, hg]
    simp [go_sem]
  · simp [invoke, go_sem, eg]
  refine (hseq (lo + 1)
    (fun k W => I k W ∧ W.heap[lo + 1]? = some (.loop (R .ready none)) ∧ W.heap[lo]? = some (.deferred (some [])))
    (fun W => Ix W ∧ W.heap[lo + 1]? = some (.loop (R .done (some .ret))) ∧ W.heap[lo]? = some (.deferred (some [])))
    W1 hb1 ?_ ?_ ?_ ?_ ?_ ⟨hI _ _ _ h0 (.of_below hb1 (by omega)), hL1, hD1⟩).mono ?_
  · rintro k A B ⟨h1, h2, h3⟩ hb
    have := hlen h2
    exact ⟨hI _ _ _ h1 (.of_below hb (by omega)), (hb.block _ this).trans h2, (hb.block _ (by omega)).trans h3⟩
  · rintro k A v ⟨h1, h2, h3⟩
    exact ⟨hI _ _ _ h1 (.of_setCell v), (Below.heap_setCell _ _ _ _ (by simp; omega)).trans h2, (Below.heap_setCell _ _ _ _ (by simp; omega)).trans h3⟩
  · rintro A B ⟨h1, h2, h3⟩ hb
    have := hlen h2
    exact ⟨hIx _ _ h1 (.of_below hb (by omega)), (hb.block _ this).trans h2, (hb.block _ (by omega)).trans h3⟩
  · rintro A v ⟨h1, h2, h3⟩
    exact ⟨hIx _ _ h1 (.of_setCell v), (Below.heap_setCell _ _ _ _ (by simp; omega)).trans h2, (Below.heap_setCell _ _ _ _ (by simp; omega)).trans h3⟩
  · rintro k x W ⟨hi, hl, hd⟩ hx
    have hlt := hlen hl
    have hy := run_yield (P := P) (args := #[Value.string x]) hl (by rw [hR]; simp [hps])
    refine ⟨_, _, _, _, hy, ?_⟩
    clear hy
    refine roundIn_of_wpIn trivial ?_
    have hrec : (R .ready none).assign = assign ∧ (R .ready none).body = body ∧ (R .ready none).tmps = a.tmps ∧ (R .ready none).params = ps ∧ (R .ready none).state = .ready := by rw [hR]; exact ⟨rfl, rfl, rfl, rfl, rfl⟩
    obtain ⟨e1, e2, e3, e4, e5⟩ := hrec
    rw [e1, e2, e3, e4]
    refine hassign _ x W _ ⟨_, run_beginRound hl e5, ?_⟩
    rw [hbusy]
    have hl2 : (W.putObj (lo + 1) (.loop (R .busy none))).heap[lo + 1]? = some (.loop (R .busy none)) := World.putObj_heap_same hlt
    have hd2 : (W.putObj (lo + 1) (.loop (R .busy none))).heap[lo]? = some (.deferred (some [])) := (World.putObj_heap_other (by omega)).trans hd
    have hi2 := hI _ _ _ hi (.of_putObj (.loop (R .busy none)) hl rfl (by omega))
    refine wpIn_mono (hbody _ k x _ (by simp; omega) hx hi2) ?_
    rintro e a3 W3 hp
    cases e with
    | normal =>
      obtain ⟨hk3, hs3, hi3⟩ := hp
      have hl3 := hk3.same _ _ (by omega) hl2 rfl
      have hd3 := hk3.same _ _ (by omega) hd2 rfl
      have hr := run_endRound (P := P) none hl3
      rw [hend] at hr
      exact ⟨_, _, hr, .inl ⟨rfl, ⟨hI _ _ _ hi3 (.of_putObj _ hl3 rfl (by omega)), World.putObj_heap_same (hlen hl3), (World.putObj_heap_other (by omega)).trans hd3⟩, ((Still.of_putObj (hi := w.heap.size) (ob := ob) (l := lo + 1) _ (by omega)).trans hs3).trans (Still.of_putObj (hi := w.heap.size) (ob := ob) (l := lo + 1) _ (by omega))⟩⟩
    | ret =>
      obtain ⟨hk3, hi3⟩ := hp
      have hl3 := hk3.same _ _ (by omega) hl2 rfl
      have hd3 := hk3.same _ _ (by omega) hd2 rfl
      have hr := run_endRound (P := P) (some .ret) hl3
      rw [hend] at hr
      exact ⟨_, _, hr, .inr ⟨rfl, hIx _ _ hi3 (.of_putObj _ hl3 rfl (by omega)), World.putObj_heap_same (hlen hl3), (World.putObj_heap_other (by omega)).trans hd3⟩⟩
    | exit id => exact hp.elim
    | goto t => exact hp.elim
    | panic ch => exact hp.elim
    | outgrown => exact hp.elim
  · rintro e W2 ⟨⟨v, rfl⟩, (⟨hi, hl, hd⟩ | ⟨hi, hl, hd⟩)⟩
    · have hr := run_endLoop (P := P) hl (by rw [hR]; simp)
      refine ⟨_, _, hr, ?_⟩
      have e : (R .ready none).pending = none := by rw [hR]
      rw [e]
      exact hdone lo _ (by omega) (hI _ _ _ hi (.of_putObj _ hl rfl (by omega))) ((World.putObj_heap_other (by omega)).trans hd)
    · have hr := run_endLoop (P := P) hl (by rw [hR]; simp)
      refine ⟨_, _, hr, ?_⟩
      have e : (R .done (some .ret)).pending = some .ret := by rw [hR]
      rw [e]
      exact hstop lo _ (by omega) (hIx _ _ hi (.of_putObj _ hl rfl (by omega))) ((World.putObj_heap_other (by omega)).trans hd)
end Go.Proofs.YtckmkjkckadfjaaDoor

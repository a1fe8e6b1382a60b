/- The program's ParsePages: what its loop keeps. -/
import Derived.Test.YtckmkjkckadfjaaDoorParSeq2
import Derived.Test.YtckmkjkckadfjaaDoorParRefT
import Derived.Test.YtckmkjkckadfjaaDoorParNum
import Derived.Test.YtckmkjkckadfjaaDoorPagI
import Derived.WalkKit
import Derived.Maps.AppendAt
namespace Go.Proofs.YtckmkjkckadfjaaDoor
open Go.RowKit Go.Shelf
set_option maxHeartbeats 2000000
set_option maxRecDepth 100000
set_option linter.unusedVariables false

/-- From A to B: below lo nothing has turned but the box ob; from lo on whatever is no cells lies as it lay. -/
structure Duro (lo ob : Nat) (A B : World) : Prop where
  os : B.os = A.os
  tape : B.tape = A.tape
  output : B.output = A.output
  size : A.heap.size ≤ B.heap.size
  low : ∀ j, j < lo → j ≠ ob → B.heap[j]? = A.heap[j]?
  oth : ∀ j o, lo ≤ j → A.heap[j]? = some o → o.isCells = false → B.heap[j]? = some o
theorem Duro.refl (lo ob : Nat) (A : World) : Duro lo ob A A := ⟨rfl, rfl, rfl, Nat.le_refl _, fun _ _ _ => rfl, fun _ _ _ h _ => h⟩
theorem Duro.trans {lo ob : Nat} {A B C : World} (h : Duro lo ob A B) (k : Duro lo ob B C) : Duro lo ob A C :=
  ⟨k.os.trans h.os, k.tape.trans h.tape, k.output.trans h.output, Nat.le_trans h.size k.size, fun j h1 h2 => (k.low j h1 h2).trans (h.low j h1 h2), fun j o h1 h2 h3 => k.oth j o h1 (h.oth j o h1 h2 h3) h3⟩
theorem Duro.of_below {lo ob : Nat} {A B : World} (h : Below A.heap.size A B) (hlo : lo ≤ A.heap.size) : Duro lo ob A B :=
  ⟨h.os, h.tape, h.output, h.size, fun j h1 _ => h.block j (by omega), fun j o h1 h2 _ => (h.block j (Array.getElem?_eq_some_iff.1 h2).1).trans h2⟩
theorem Duro.below {lo ob n : Nat} {w A B : World} (h : Duro lo ob A B) (hb : Below n w A) (h1 : n ≤ ob) (h2 : n ≤ lo) : Below n w B :=
  ⟨h.os.trans hb.os, h.tape.trans hb.tape, h.output.trans hb.output, Nat.le_trans hb.size h.size, fun k hk => (h.low k (by omega) (by omega)).trans (hb.block k hk)⟩
theorem Duro.still {lo ob : Nat} {A B : World} (h : Duro lo ob A B) : Still lo ob A B := ⟨h.size, h.low⟩
theorem Duro.keeps {lo ob : Nat} {A B : World} (h : Duro lo ob A B) : KeepsFrom lo A B := ⟨h.size, h.oth⟩
theorem Duro.boxed {lo ob b : Nat} {t : TypeId} {v : Value} {A B : World} (h : Duro lo ob A B) (hb : Boxed A b t v) (h1 : b < lo) (h2 : b ≠ ob) : Boxed B b t v := (h.low b h1 h2).trans hb
theorem boxed_below {b : Nat} {t : TypeId} {v : Value} {A B : World} (h : Below A.heap.size A B) (hb : Boxed A b t v) : Boxed B b t v := (h.block b hb.lt).trans hb
theorem boxed_calm {lo sb b : Nat} {t : TypeId} {v : Value} {A B : World} (h : Calm lo sb A B) (hb : Boxed A b t v) (hne : b ≠ sb) : Boxed B b t v := (h.block b hne (.inr ⟨_, hb, rfl⟩)).trans hb
theorem below_calm {lo sb n : Nat} {w A B : World} (h : Calm lo sb A B) (hb : Below n w A) (h1 : n ≤ sb) (h2 : n ≤ lo) : Below n w B :=
  ⟨h.os.trans hb.os, h.tape.trans hb.tape, h.output.trans hb.output, Nat.le_trans hb.size h.size, fun k hk => (h.block k (by omega) (.inl (by omega))).trans (hb.block k hk)⟩
theorem row_calm {lo sb : Nat} {T : TypeId} {B m n : Nat} {w w' : World} {v : Value} {xs : List Value} (h : w.ownsRow B T m v n xs) (hc : Calm lo sb w w') (hB : sb < B) : w'.ownsRow B T m v n xs := by
  refine ⟨h.1, ?_⟩
  rcases h.2 with h0 | ⟨g, cap, cur, rfl, h1, h2, h3⟩
  · exact .inl h0
  · exact .inr ⟨g, cap, cur, rfl, h1, by rw [hc.block g (by omega) (.inr ⟨_, h2, rfl⟩)]; exact h2, h3⟩
theorem row_below {T : TypeId} {B m n : Nat} {w w' : World} {v : Value} {xs : List Value} (h : w.ownsRow B T m v n xs) (hb : Below w.heap.size w w') : w'.ownsRow B T m v n xs := row_same h (fun k hk => hb.block k (h.lt k hk).2)
/-- One number more in the row whose slice the box ob holds. -/
theorem box_appended {W w1 : World} {lo ob : Nat} {t e : TypeId} {v v' : Value} {k m : Nat} {xs ys : List Value} {tmp : Obj} (hv : Boxed W ob t v) (hrow : W.ownsRow lo e 1 v k xs) (hlo : lo ≤ W.heap.size) (hob : ob < lo)
    (hown' : w1.ownsRow lo e 1 v' m ys) (hgrow : (W.alloc tmp).grownBy w1 v.ownBlock) :
    Boxed w1 ob t v ∧ Boxed (w1.setCell ⟨ob, 0, none⟩ v') ob t v' ∧ (w1.setCell ⟨ob, 0, none⟩ v').ownsRow lo e 1 v' m ys ∧ Duro lo ob W (w1.setCell ⟨ob, 0, none⟩ v') := by
  have hblk : ∀ j, some j = v.ownBlock → lo ≤ j := fun j hj => (hrow.lt j hj.symm).1
  have hg : ∀ j, j < W.heap.size → some j ≠ v.ownBlock → w1.heap[j]? = W.heap[j]? := fun j h1 h2 => (hgrow.block j (by simp; omega) h2).trans (Below.heap_alloc _ _ _ h1)
  have hv1 : Boxed w1 ob t v := (hg ob hv.lt (fun e => by have := hblk _ e; omega)).trans hv
  refine ⟨hv1, hv1.set v', row_same hown' (fun k hk => Below.heap_setCell _ _ _ _ (by have := (hown'.lt k hk).1; simp; omega)), hgrow.os, hgrow.tape, hgrow.output, ?_, fun j h1 h2 => ?_, fun j o h1 h2 h3 => ?_⟩
  · have h1 := hgrow.size
    have h2 := (KeepsWalks.setCell w1 ⟨ob, 0, none⟩ v').size
    simp at h1
    omega
  · rw [Below.heap_setCell _ _ _ _ h2]
    exact hg j (by omega) (fun e => by have := hblk _ e; omega)
  · rw [Below.heap_setCell _ _ _ _ (by simp; omega)]
    refine (hg j (Array.getElem?_eq_some_iff.1 h2).1 (fun e => ?_)).trans h2
    rcases hrow.2 with ⟨rfl, _⟩ | ⟨g, cap, cur, rfl, _, hgb, _⟩
    · simp [Value.ownBlock] at e
    · obtain rfl : j = g := by simpa [Value.ownBlock] using e
      rw [hgb] at h2; cases h2; cases h3

/-- The two places of the results as the call lays them. -/
structure Res (w W : World) : Prop where
  b0 : Boxed W w.heap.size 23 (.slice none 0 0)
  b1 : Boxed W (w.heap.size + 1) 4 (.bool false)
  low : Below w.heap.size w W
theorem Res.calm {lo sb : Nat} {w A B : World} (h : Res w A) (hc : Calm lo sb A B) (h1 : w.heap.size + 1 < sb) (h2 : w.heap.size ≤ lo) : Res w B :=
  ⟨boxed_calm hc h.b0 (by omega), boxed_calm hc h.b1 (by omega), below_calm hc h.low (by omega) h2⟩
theorem Res.duro {lo ob : Nat} {w A B : World} (h : Res w A) (hd : Duro lo ob A B) (h1 : w.heap.size + 1 < ob) (h2 : w.heap.size + 1 < lo) : Res w B :=
  ⟨hd.boxed h.b0 (by omega) (by omega), hd.boxed h.b1 (by omega) (by omega), hd.below h.low (by omega) (by omega)⟩
theorem Res.put {w A : World} (h : Res w A) : Res w ((A.setCell ⟨w.heap.size, 0, none⟩ (.slice none 0 0)).setCell ⟨w.heap.size + 1, 0, none⟩ (.bool false)) :=
  ⟨(h.b0.set _).other (by omega) _, (h.b1.other (by omega) _).set _, (h.low.setCell (p := ⟨w.heap.size, 0, none⟩) (Nat.le_refl _) _).setCell (p := ⟨w.heap.size + 1, 0, none⟩) (Nat.le_succ _) _⟩
theorem pnum_bd {l : Bs} {v : Int} (h : pnum l = some v) : 1 ≤ v ∧ v ≤ 3999 := by
  unfold pnum at h
  split at h
  · split at h
    · rename_i h2; injection h with h; subst h; exact h2
    · cases h
  · cases h
theorem cut_size (l sep : Bs) : (Lib.cut l sep).1.length ≤ l.length ∧ (Lib.cut l sep).2.1.length ≤ l.length := by
  unfold Lib.cut
  split
  · exact ⟨by simp only [List.length_take]; omega, by simp only [List.length_drop]; omega⟩
  · simp
theorem parF_at {P : List Bs} {k : Nat} {x : Bs} (h : P[k]? = some x) (out : List Int) : parF (P.drop k) out = match stepP out x with | none => none | some o => parF (P.drop (k + 1)) o := by
  obtain ⟨hk, rfl⟩ := List.getElem?_eq_some_iff.1 h
  rw [List.drop_eq_getElem_cons hk, parF]
  cases stepP out P[k] <;> rfl
/-- What the places of the results hold at the end. -/
structure ResV (w W : World) (u : Value) (b : Bool) : Prop where
  b0 : Boxed W w.heap.size 23 u
  b1 : Boxed W (w.heap.size + 1) 4 (.bool b)
  low : Below w.heap.size w W
theorem Res.v {w W : World} (h : Res w W) : ResV w W (.slice none 0 0) false := ⟨h.b0, h.b1, h.low⟩
theorem Res.putV {w A : World} (h : Res w A) (u : Value) (b : Bool) : ResV w ((A.setCell ⟨w.heap.size, 0, none⟩ u).setCell ⟨w.heap.size + 1, 0, none⟩ (.bool b)) u b :=
  ⟨(h.b0.set _).other (by omega) _, (h.b1.other (by omega) _).set _, (h.low.setCell (p := ⟨w.heap.size, 0, none⟩) (Nat.le_refl _) _).setCell (p := ⟨w.heap.size + 1, 0, none⟩) (Nat.le_succ _) _⟩
theorem ResV.shut {w W : World} {u : Value} {b : Bool} {D : Nat} (h : ResV w W u b) (hK : W.heap[D]? = some (.deferred (some []))) (hD : w.heap.size ≤ D) : ResV w (W.putObj D (.deferred none)) u b := by
  have hne : ∀ {k t v}, Boxed W k t v → k ≠ D := fun hb e => by subst e; rw [show W.heap[_]? = _ from hb] at hK; cases hK
  exact ⟨(World.putObj_heap_other (hne h.b0)).trans h.b0, (World.putObj_heap_other (hne h.b1)).trans h.b1, h.low.os, h.low.tape, h.low.output, by simpa using h.low.size, fun k hk => (World.putObj_heap_other (by omega)).trans (h.low.block k hk)⟩
theorem Res.below {w A B : World} (h : Res w A) (hb : Below A.heap.size A B) : Res w B := ⟨boxed_below hb h.b0, boxed_below hb h.b1, h.low.trans (hb.mono h.low.size)⟩
theorem put_held {A : World} {n D : Nat} {u v : Value} (hK : A.heap[D]? = some (.deferred (some []))) : ((A.setCell ⟨n, 0, none⟩ u).setCell ⟨n + 1, 0, none⟩ v).heap[D]? = some (.deferred (some [])) :=
  ((KeepsOthers.setCell A ⟨n, 0, none⟩ u).trans (KeepsOthers.setCell _ ⟨n + 1, 0, none⟩ v)).same D _ hK rfl
theorem row_put {A : World} {n lo D k : Nat} {e : TypeId} {u v x : Value} {xs : List Value} (h : A.ownsRow lo e 1 x k xs) (hn : n + 1 < lo) (hK : A.heap[D]? = some (.deferred (some []))) : (((A.setCell ⟨n, 0, none⟩ u).setCell ⟨n + 1, 0, none⟩ v).putObj D (.deferred none)).ownsRow lo e 1 x k xs :=
  ownsRow_putObj (row_same h (fun j hj => by
    have := (h.lt j hj).1
    rw [Below.heap_setCell _ _ _ _ (by simp; omega), Below.heap_setCell _ _ _ _ (by simp; omega)])) _ (put_held hK) rfl
end Go.Proofs.YtckmkjkckadfjaaDoor

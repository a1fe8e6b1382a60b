/- Entries of an index in memory: two cells an entry, a row of pages behind the second. -/
import Derived.Test.YtckmkjkckadfjaaDoorIdxPlain
import Derived.Test.YtckmkjkckadfjaaDoorStructs
import Derived.Deep.AppendLies
import Derived.Deep.RegionLaw
import Derived.ArgAppend
import Derived.Laws.OwnMore
namespace Go.Proofs.YtckmkjkckadfjaaDoor
open Go.RowKit
set_option maxHeartbeats 1000000
set_option maxRecDepth 100000
set_option linter.unusedVariables false

/-- An entry with the value of its pages. -/
abbrev XE : Type := Ent × Value
def xC (X : List XE) : List Value := X.flatMap fun x => [.string x.1.1, x.2]
def xE (X : List XE) : List Ent := X.map (·.1)
def xB (X : List XE) : List Nat := X.filterMap (·.2.ownBlock)
def ew (E : List Ent) (i : Nat) : ByteArray := (E.getD i (⟨#[]⟩, [])).1
def ep (E : List Ent) (i : Nat) : List Int := (E.getD i (⟨#[]⟩, [])).2
theorem xC_nil : xC [] = [] := rfl
theorem xC_cons (x : XE) (X : List XE) : xC (x :: X) = .string x.1.1 :: x.2 :: xC X := rfl
theorem xC_append (X Y : List XE) : xC (X ++ Y) = xC X ++ xC Y := by simp [xC]
theorem xC_len : ∀ X : List XE, (xC X).length = X.length * 2
  | [] => rfl
  | x :: X => by rw [xC_cons, List.length_cons, List.length_cons, xC_len X, List.length_cons]; omega
theorem xC_take : ∀ (X : List XE) (k : Nat), (xC X).take (k * 2) = xC (X.take k)
  | [], k => by simp [xC]
  | x :: X, 0 => by simp [xC]
  | x :: X, k + 1 => by rw [xC_cons, show (k + 1) * 2 = k * 2 + 1 + 1 by omega, List.take_succ_cons, List.take_succ_cons, xC_take X k, List.take_succ_cons, xC_cons]
theorem xC_drop : ∀ (X : List XE) (k : Nat), (xC X).drop (k * 2) = xC (X.drop k)
  | [], k => by simp [xC]
  | x :: X, 0 => by simp
  | x :: X, k + 1 => by rw [xC_cons, show (k + 1) * 2 = k * 2 + 1 + 1 by omega, List.drop_succ_cons, List.drop_succ_cons, xC_drop X k, List.drop_succ_cons]
theorem xC_at : ∀ (X : List XE) (i : Nat) (h : i < X.length), (xC X)[i * 2]? = some (.string X[i].1.1) ∧ (xC X)[i * 2 + 1]? = some X[i].2
  | x :: X, 0, _ => ⟨rfl, rfl⟩
  | x :: X, i + 1, h => by
    have := xC_at X i (by simpa using h)
    rw [xC_cons, show (i + 1) * 2 = i * 2 + 1 + 1 by omega]
    simpa using this
theorem xE_len (X : List XE) : (xE X).length = X.length := by simp [xE]
theorem xE_at (X : List XE) (i : Nat) (h : i < X.length) : ew (xE X) i = X[i].1.1 ∧ ep (xE X) i = X[i].1.2 := by
  unfold ew ep xE
  simp [List.getD_eq_getElem?_getD, h]
theorem xC_one {X : List XE} (h : ∀ x ∈ X, x.2.oneCell' = true) : ∀ u ∈ xC X, u.oneCell' = true := by
  intro u hu
  unfold xC at hu
  rw [List.mem_flatMap] at hu
  obtain ⟨x, hx, hu⟩ := hu
  simp only [List.mem_cons, List.not_mem_nil, or_false] at hu
  rcases hu with rfl | rfl
  · rfl
  · exact h x hx
theorem xB_mem {X : List XE} {b : Nat} : b ∈ xB X ↔ ∃ x ∈ X, x.2.ownBlock = some b := by unfold xB; rw [List.mem_filterMap]

theorem row_same {T : TypeId} {B m n : Nat} {w w' : World} {v : Value} {xs : List Value} (h : w.ownsRow B T m v n xs) (hs : ∀ k, v.ownBlock = some k → w'.heap[k]? = w.heap[k]?) : w'.ownsRow B T m v n xs := by
  refine ⟨h.1, ?_⟩
  rcases h.2 with h0 | ⟨g, cap, cur, rfl, h1, h2, h3⟩
  · exact .inl h0
  · exact .inr ⟨g, cap, cur, rfl, h1, by rw [hs g rfl]; exact h2, h3⟩
theorem row_low {T : TypeId} {B B' m n : Nat} {w : World} {v : Value} {xs : List Value} (h : w.ownsRow B T m v n xs) (hb : B' ≤ B) : w.ownsRow B' T m v n xs := by
  refine ⟨h.1, ?_⟩
  rcases h.2 with h0 | ⟨g, cap, cur, rfl, h1, h2⟩
  · exact .inl h0
  · exact .inr ⟨g, cap, cur, rfl, Nat.le_trans hb h1, h2⟩
theorem row_shape {T : TypeId} {B m n : Nat} {w : World} {v : Value} {xs : List Value} (h : w.ownsRow B T m v n xs) : ∃ a c, v = .slice a n c := by
  rcases h.2 with ⟨rfl, rfl⟩ | ⟨g, cap, cur, rfl, _⟩
  · exact ⟨none, 0, rfl⟩
  · exact ⟨_, cap, rfl⟩
theorem row_one {T : TypeId} {B m n : Nat} {w : World} {v : Value} {xs : List Value} (h : w.ownsRow B T m v n xs) : v.oneCell' = true := by
  obtain ⟨a, c, rfl⟩ := row_shape h; rfl
theorem row_sl {B n : Nat} {w : World} {v : Value} {L : List Int} (h : w.ownsRow B 3 1 v n (L.map (Value.int .i64))) (hn : n = L.length) : SlI w v L := by
  subst hn
  have ho : OwnI B w.heap.size w v L := ⟨h, fun k hk => (h.lt k hk).2, Nat.le_refl _⟩
  exact ho.sl

def PgRow (lo : Nat) (w : World) (x : XE) : Prop := w.ownsRow lo 3 1 x.2 x.1.2.length (x.1.2.map (Value.int .i64))
/-- The rows of pages: each in a block of its own, from lo on and below hi; the block r is none of theirs. -/
structure PgOwn (lo hi : Nat) (w : World) (r : Option Nat) (X : List XE) : Prop where
  fits : hi ≤ w.heap.size
  pg : ∀ x ∈ X, PgRow lo w x
  nd : (xB X).Nodup
  top : ∀ b ∈ xB X, b < hi ∧ some b ≠ r
theorem PgOwn.low {lo hi : Nat} {w : World} {r : Option Nat} {X : List XE} (h : PgOwn lo hi w r X) : ∀ b ∈ xB X, lo ≤ b := by
  intro b hb
  obtain ⟨x, hx, e⟩ := xB_mem.1 hb
  exact ((h.pg x hx).lt b e).1
theorem PgOwn.same {lo hi hi' : Nat} {w w' : World} {r r' : Option Nat} {X : List XE} (h : PgOwn lo hi w r X) (hs : ∀ b ∈ xB X, w'.heap[b]? = w.heap[b]?) (hf : hi ≤ hi') (hf2 : hi' ≤ w'.heap.size) (hr : ∀ b ∈ xB X, some b ≠ r') : PgOwn lo hi' w' r' X :=
  ⟨hf2, fun x hx => row_same (h.pg x hx) (fun k hk => hs k (xB_mem.2 ⟨x, hx, hk⟩)), h.nd, fun b hb => ⟨Nat.lt_of_lt_of_le (h.top b hb).1 hf, hr b hb⟩⟩
theorem PgOwn.below {lo hi : Nat} {w w' : World} {r : Option Nat} {X : List XE} (h : PgOwn lo hi w r X) (hb : Below w.heap.size w w') : PgOwn lo hi w' r X :=
  h.same (fun b hm => hb.block b (Nat.lt_of_lt_of_le (h.top b hm).1 h.fits)) (Nat.le_refl _) (Nat.le_trans h.fits hb.size) (fun b hm => (h.top b hm).2)
theorem PgOwn.nil (lo hi : Nat) (w : World) (r : Option Nat) (h : hi ≤ w.heap.size) : PgOwn lo hi w r [] := ⟨h, fun x hx => by simp at hx, List.nodup_nil, fun b hb => by simp [xB] at hb⟩
theorem PgOwn.one {lo hi : Nat} {w : World} {r : Option Nat} {X : List XE} (h : PgOwn lo hi w r X) : ∀ u ∈ xC X, u.oneCell' = true := xC_one (fun x hx => row_one (h.pg x hx))
theorem PgOwn.lowr {lo lo' hi : Nat} {w : World} {r : Option Nat} {X : List XE} (h : PgOwn lo hi w r X) (hl : lo' ≤ lo) : PgOwn lo' hi w r X := ⟨h.fits, fun x hx => row_low (h.pg x hx) hl, h.nd, h.top⟩
theorem xB_append (X Y : List XE) : xB (X ++ Y) = xB X ++ xB Y := by simp [xB]
theorem xB_cons (x : XE) (X : List XE) : xB (x :: X) = x.2.ownBlock.toList ++ xB X := by
  unfold xB
  rw [List.filterMap_cons]
  cases x.2.ownBlock <;> simp
/-- An entry put between others; its pages lie in a new block or nowhere. -/
theorem PgOwn.insert {lo hi hi' : Nat} {w : World} {r : Option Nat} {X : List XE} (h : PgOwn lo hi w r X) (k : Nat) (x : XE) (hx : PgRow lo w x) (hf : hi ≤ hi') (hf2 : hi' ≤ w.heap.size) (hb : ∀ b, x.2.ownBlock = some b → b < hi' ∧ some b ≠ r ∧ b ∉ xB X) :
    PgOwn lo hi' w r (X.take k ++ x :: X.drop k) := by
  have hX : ∀ b, b ∈ xB (X.take k ++ x :: X.drop k) ↔ b ∈ xB X ∨ x.2.ownBlock = some b := by
    intro b
    have e : xB X = xB (X.take k) ++ xB (X.drop k) := by rw [← xB_append, List.take_append_drop]
    rw [xB_append, xB_cons, e]
    simp only [List.mem_append, Option.mem_toList]
    constructor
    · rintro (h | h | h); exact .inl (.inl h); exact .inr h; exact .inl (.inr h)
    · rintro ((h | h) | h); exact .inl h; exact .inr (.inr h); exact .inr (.inl h)
  refine ⟨hf2, fun y hy => ?_, ?_, fun b hbm => ?_⟩
  · rcases List.mem_append.1 hy with hy | hy
    · exact h.pg y (List.mem_of_mem_take hy)
    · rcases List.mem_cons.1 hy with rfl | hy
      · exact hx
      · exact h.pg y (List.mem_of_mem_drop hy)
  · have hn := h.nd
    have e : xB X = xB (X.take k) ++ xB (X.drop k) := by rw [← xB_append, List.take_append_drop]
    rw [xB_append, xB_cons]
    cases ho : x.2.ownBlock with
    | none => simpa [← e] using hn
    | some b =>
      have hb3 := (hb b ho).2.2
      rw [e] at hn hb3
      simp only [Option.toList_some, List.singleton_append]
      rw [List.nodup_append] at hn ⊢
      refine ⟨hn.1, List.nodup_cons.2 ⟨fun hm => hb3 (List.mem_append_right _ hm), hn.2.1⟩, fun a ha c hc => ?_⟩
      rcases List.mem_cons.1 hc with rfl | hc
      · intro e2; subst e2; exact hb3 (List.mem_append_left _ ha)
      · exact hn.2.2 a ha c hc
  · rcases (hX b).1 hbm with hbm | hbm
    · exact ⟨Nat.lt_of_lt_of_le (h.top b hbm).1 hf, (h.top b hbm).2⟩
    · exact ⟨(hb b hbm).1, (hb b hbm).2.1⟩
/-- An entry whose pages were replaced by a row in a new block or nowhere. -/
theorem PgOwn.replace {lo hi hi' : Nat} {w : World} {r : Option Nat} {X : List XE} (h : PgOwn lo hi w r X) (k : Nat) (hk : k < X.length) (x : XE) (hx : PgRow lo w x) (hf : hi ≤ hi') (hf2 : hi' ≤ w.heap.size) (hb : ∀ b, x.2.ownBlock = some b → b < hi' ∧ some b ≠ r ∧ (b ∉ xB X ∨ X[k].2.ownBlock = some b)) :
    PgOwn lo hi' w r (X.set k x) := by
  have eX : X = X.take k ++ X[k] :: X.drop (k + 1) := by rw [List.getElem_cons_drop, List.take_append_drop]
  have eS : X.set k x = X.take k ++ x :: X.drop (k + 1) := by rw [List.set_eq_take_append_cons_drop, if_pos hk]
  have hn := h.nd
  have e : xB X = xB (X.take k) ++ (X[k].2.ownBlock.toList ++ xB (X.drop (k + 1))) := by
    conv => lhs; rw [eX]
    rw [xB_append, xB_cons]
  have hsub : ∀ b, b ∈ xB (X.take k) ∨ b ∈ xB (X.drop (k + 1)) → b ∈ xB X := by
    intro b hbm; rw [e]; rcases hbm with hbm | hbm
    · exact List.mem_append_left _ hbm
    · exact List.mem_append_right _ (List.mem_append_right _ hbm)
  have hno : ∀ b, x.2.ownBlock = some b → b ∉ xB (X.take k) ∧ b ∉ xB (X.drop (k + 1)) := by
    intro b ho
    rcases (hb b ho).2.2 with h1 | h1
    · exact ⟨fun hm => h1 (hsub b (.inl hm)), fun hm => h1 (hsub b (.inr hm))⟩
    · rw [e, h1, Option.toList_some, List.nodup_append] at hn
      refine ⟨fun hm => hn.2.2 b hm b (by simp) rfl, fun hm => ?_⟩
      have := hn.2.1
      rw [List.singleton_append, List.nodup_cons] at this
      exact this.1 hm
  rw [eS]
  refine ⟨hf2, fun y hy => ?_, ?_, fun b hbm => ?_⟩
  · rcases List.mem_append.1 hy with hy | hy
    · exact h.pg y (List.mem_of_mem_take hy)
    · rcases List.mem_cons.1 hy with rfl | hy
      · exact hx
      · exact h.pg y (List.mem_of_mem_drop hy)
  · rw [xB_append, xB_cons]
    rw [e, List.nodup_append] at hn
    have hn2 := List.nodup_append.1 hn.2.1
    cases ho : x.2.ownBlock with
    | none =>
      rw [Option.toList_none, List.nil_append, List.nodup_append]
      exact ⟨hn.1, hn2.2.1, fun a ha c hc => hn.2.2 a ha c (List.mem_append_right _ hc)⟩
    | some b =>
      obtain ⟨n1, n2⟩ := hno b ho
      rw [Option.toList_some, List.singleton_append, List.nodup_append]
      refine ⟨hn.1, List.nodup_cons.2 ⟨n2, hn2.2.1⟩, fun a ha c hc => ?_⟩
      rcases List.mem_cons.1 hc with rfl | hc
      · intro e2; subst e2; exact n1 ha
      · exact hn.2.2 a ha c (List.mem_append_right _ hc)
  · rw [xB_append, xB_cons] at hbm
    simp only [List.mem_append, Option.mem_toList] at hbm
    rcases hbm with hbm | hbm | hbm
    · have := h.top b (hsub b (.inl hbm)); exact ⟨Nat.lt_of_lt_of_le this.1 hf, this.2⟩
    · exact ⟨(hb b hbm).1, (hb b hbm).2.1⟩
    · have := h.top b (hsub b (.inr hbm)); exact ⟨Nat.lt_of_lt_of_le this.1 hf, this.2⟩

/-- An index that can be read. -/
def SlE (w : World) (v : Value) (E : List Ent) : Prop := ∃ X, xE X = E ∧ SlC 2 w v E.length (xC X) ∧ ∀ x ∈ X, SlI w x.2 x.1.2
theorem SlE.below {w w' : World} {v : Value} {E : List Ent} (h : SlE w v E) (hb : Below w.heap.size w w') : SlE w' v E := by
  obtain ⟨X, rfl, h1, h2⟩ := h
  exact ⟨X, rfl, h1.below hb, fun x hx => (h2 x hx).below hb⟩
theorem SlE.drewN {w : World} {v : Value} {E : List Ent} (h : SlE w v E) (q : Nat) : SlE (w.drewN q) v E := h
theorem SlE.shape {w : World} {v : Value} {E : List Ent} (h : SlE w v E) : ∃ a cap, v = .slice a E.length cap ∧ E.length ≤ cap ∧ cap ≤ maxLen := by
  obtain ⟨X, rfl, ⟨a, cap, e, h1, h2, _⟩, _⟩ := h
  exact ⟨a, cap, e, h1, h2⟩
theorem SlE.at {w : World} {a : Option Addr} {n cap : Nat} {E : List Ent} (h : SlE w (.slice a n cap) E) (hn : 0 < n) : ∃ b off, a = some ⟨b, off, none⟩ ∧ b < w.heap.size ∧ ∀ i, i < n → ∃ vp, w.cell? ⟨b, off + i * 2, none⟩ = some (.string (ew E i)) ∧ w.cell? ⟨b, off + i * 2 + 1, none⟩ = some vp ∧ SlI w vp (ep E i) := by
  obtain ⟨X, rfl, h1, h2⟩ := h
  obtain ⟨a', cap', e, _⟩ := id h1
  injection e with e1 e2 e3
  subst e2
  obtain ⟨b, off, rfl, hb, hc⟩ := h1.cells hn
  refine ⟨b, off, rfl, hb, fun i hi => ?_⟩
  rw [xE_len] at hi
  obtain ⟨c0, c1⟩ := xC_at X i hi
  obtain ⟨e0, e1⟩ := xE_at X i hi
  refine ⟨X[i].2, ?_, ?_, ?_⟩
  · rw [hc _ (by rw [xE_len]; omega), c0, e0]
  · rw [Nat.add_assoc, hc _ (by rw [xE_len]; omega), c1]
  · rw [e1]; exact h2 _ (List.getElem_mem _)
end Go.Proofs.YtckmkjkckadfjaaDoor

/- The iterator of strings.SplitSeq. -/
import Derived.Test.YtckmkjkckadfjaaDoorParLoop
import Derived.Test.YtckmkjkckadfjaaDoorParPlain
import Derived.Test.YtckmkjkckadfjaaDoorRange
import Derived.Test.YtckmkjkckadfjaaDoorShelf
import Derived.Test.YtckmkjkckadfjaaDoorBase
import Derived.Lib.IndexMore
import Derived.Shelf.Abstract
import Derived.Shelf.RegionOpen
import Derived.OwnWalkIn
import Derived.TacticsInMore
import Derived.LoopNIn
import Derived.LoopIn
namespace Go.Proofs.YtckmkjkckadfjaaDoor
open Go.RowKit Go.Shelf
set_option maxHeartbeats 2000000
set_option maxRecDepth 100000
set_option linter.unusedVariables false

def sepA : ByteArray := ⟨#[44, 32]⟩
/-- The library's variable holds some number. -/
def MaxL (w : World) : Prop := ∃ m, w.cell? ⟨0, 0, none⟩ = some (.int .i64 m) ∧ 0 < w.heap.size
theorem MaxL.below {w w' : World} (h : MaxL w) (hb : Below w.heap.size w w') : MaxL w' := by
  obtain ⟨m, h1, h2⟩ := h
  exact ⟨m, ((bcell hb).1 _ _ h2).trans h1, Nat.lt_of_lt_of_le h2 hb.size⟩
/-- From part k on the parts are those of r. -/
structure Rest (X : List ByteArray) (k f : Nat) (r : ByteArray) : Prop where
  eq : X.drop k = Lib.splitB sepA 0 f r
  le : r.size ≤ f
theorem Rest.none {X : List ByteArray} {k f : Nat} {r : ByteArray} (h : Rest X k f r) (hi : Lib.indexB r sepA = -1) : X[k]? = some r ∧ k + 1 = X.length := by
  have e := h.eq
  rw [Lib.splitB_miss _ _ _ _ hi] at e
  have hl : X.length - k = 1 := by rw [← List.length_drop, e]; rfl
  refine ⟨?_, by omega⟩
  have : (X.drop k)[0]? = some r := by rw [e]; rfl
  rwa [List.getElem?_drop, Nat.add_zero] at this
theorem Rest.some {X : List ByteArray} {k f : Nat} {r : ByteArray} {i : Nat} (h : Rest X k f r) (hi : Lib.indexB r sepA = i) : X[k]? = .some (r.extract 0 i) ∧ i + 2 ≤ r.size ∧ Rest X (k + 1) (f - 1) (r.extract (i + 2) r.size) := by
  have hi' : Lib.index r.data.toList sepA.data.toList = (i : Int) := hi
  have hr := Lib.index_room r.data.toList sepA.data.toList (by rw [hi']; omega)
  have hr2 : i + 2 ≤ r.size := by
    rw [hi'] at hr
    have h2 : sepA.data.toList.length = 2 := rfl
    have h3 : r.data.toList.length = r.size := by simp
    rw [h2, h3] at hr
    omega
  have hf : f = (f - 1) + 1 := by have := h.le; omega
  have e := h.eq
  rw [hf, Lib.splitB_hit _ _ _ _ i hi] at e
  refine ⟨?_, hr2, ?_, ?_⟩
  · have : (X.drop k)[0]? = .some (r.extract 0 (i + 0)) := by rw [e]; rfl
    rwa [List.getElem?_drop, Nat.add_zero, Nat.add_zero] at this
  · rw [← List.drop_drop, e]; rfl
  · have := h.le; simp; omega
def strAt (w : World) (b : Nat) : Nat := match w.cell? ⟨b, 0, none⟩ with | some (.string r) => r.size | _ => 0
/-- The three boxes of the iterator: the separator, what is left, how much of the separator stays. -/
structure Boxes (w : World) (hi ob b1 b2 b3 : Nat) (r : ByteArray) : Prop where
  c1 : w.cell? ⟨b1, 0, none⟩ = some (.string sepA)
  c2 : w.cell? ⟨b2, 0, none⟩ = some (.string r)
  f2 : w.frozen? ⟨b2, 0, none⟩ = false
  c3 : w.cell? ⟨b3, 0, none⟩ = some (.int .i64 0)
  lt : b1 < hi ∧ b2 < hi ∧ b3 < hi
  ne : b1 ≠ ob ∧ b2 ≠ ob ∧ b3 ≠ ob
  ne2 : b1 ≠ b2 ∧ b3 ≠ b2
theorem Boxes.below {w w' : World} {hi ob b1 b2 b3 : Nat} {r : ByteArray} (h : Boxes w hi ob b1 b2 b3 r) (hb : Below hi w w') : Boxes w' hi ob b1 b2 b3 r :=
  ⟨(hb.cell (p := ⟨b1, 0, none⟩) h.lt.1).trans h.c1, (hb.cell (p := ⟨b2, 0, none⟩) h.lt.2.1).trans h.c2, (hb.frozen (p := ⟨b2, 0, none⟩) h.lt.2.1).trans h.f2, (hb.cell (p := ⟨b3, 0, none⟩) h.lt.2.2).trans h.c3, h.lt, h.ne, h.ne2⟩
theorem Boxes.still {w w' : World} {hi ob b1 b2 b3 : Nat} {r : ByteArray} (h : Boxes w hi ob b1 b2 b3 r) (hb : Still hi ob w w') : Boxes w' hi ob b1 b2 b3 r :=
  ⟨(World.cell?_of_block (hb.block b1 h.lt.1 h.ne.1)).trans h.c1, (World.cell?_of_block (hb.block b2 h.lt.2.1 h.ne.2.1)).trans h.c2, (World.frozen?_of_block (hb.block b2 h.lt.2.1 h.ne.2.1)).trans h.f2, (World.cell?_of_block (hb.block b3 h.lt.2.2 h.ne.2.2)).trans h.c3, h.lt, h.ne, h.ne2⟩
theorem Boxes.set {w : World} {hi ob b1 b2 b3 : Nat} {r : ByteArray} (h : Boxes w hi ob b1 b2 b3 r) (q : ByteArray) : Boxes (w.setCell ⟨b2, 0, none⟩ (.string q)) hi ob b1 b2 b3 q :=
  ⟨(World.cell?_setCell_other _ _ _ _ (by simp; exact fun e => h.ne2.1 e.symm)).trans h.c1, World.cell?_setCell_same _ _ _ h.c2, (World.frozen?_setCell _ _ _ _).trans h.f2, (World.cell?_setCell_other _ _ _ _ (by simp; exact fun e => h.ne2.2 e.symm)).trans h.c3, h.lt, h.ne, h.ne2⟩
theorem MaxL.still {w w' : World} {hi ob : Nat} (h : MaxL w) (hb : Still hi ob w w') (h1 : 0 < hi) (h2 : 0 ≠ ob) : MaxL w' := by
  obtain ⟨m, c, l⟩ := h
  exact ⟨m, (World.cell?_of_block (hb.block _ h1 h2)).trans c, Nat.lt_of_lt_of_le l hb.size⟩
theorem MaxL.set {w : World} {b : Nat} (h : MaxL w) (hb : 0 ≠ b) (v : Value) : MaxL (w.setCell ⟨b, 0, none⟩ v) := by
  obtain ⟨m, c, l⟩ := h
  exact ⟨m, (World.cell?_setCell_other _ _ _ _ (by intro e; injection e with e; exact hb e.symm)).trans c, by simpa [World.setCell] using l⟩

attribute [local go_sem] Oper.semAt_some
theorem splitSeq1_any (hi ob b1 b2 b3 l : Nat) (X : List ByteArray) (J : Nat → World → Prop) (Jx : World → Prop) (s : ByteArray) (W : World) (hB : Boxes W hi ob b1 b2 b3 s) (hX : Rest X 0 s.size s) (hM : MaxL W) (hm : 0 < hi ∧ 0 ≠ ob ∧ 0 ≠ b2) (hs : s.size < 4294967281)
    (hJs : ∀ k A v, J k A → J k (A.setCell ⟨b2, 0, none⟩ v))
    (hY : ∀ k x W1, J k W1 → X[k]? = some x → YieldAt Fence.wide 0 Tryd.prog l #[.string x] W1 fun e W' =>
      (e = .returned (.bool true) ∧ J (k + 1) W' ∧ Still hi ob W1 W') ∨ (e = .returned (.bool false) ∧ Jx W'))
    (h0 : J 0 W) :
    CallsIn Fence.wide 0 Tryd.prog 46 #[.func (.yield l) #[] #[], .pointer (some ⟨b1, 0, none⟩), .pointer (some ⟨b2, 0, none⟩), .pointer (some ⟨b3, 0, none⟩)] W fun e W' => (∃ v, e = .returned v) ∧ (J X.length W' ∨ Jx W') := by
  refine callsIn_of_wp Tryd.func46 rfl trivial ?_ rfl
  simp only [Tryd.ntmps46, List.size_toArray, List.length_cons, List.length_nil, Nat.reduceAdd, Nat.reduceSub, Array.replicate_succ, Array.replicate_zero, List.push_toArray, List.append_toArray, List.nil_append, List.cons_append]
  have HB0 := Lib.hid hB
  have HX0 := Lib.hid hX
  have HM0 := Lib.hid hM
  have HJ0 := Lib.hid h0
  have HJs := Lib.hid hJs
  have HY := Lib.hid hY
  have hsep : sepA.size = 2 := rfl
  have c1 := hB.c1
  clear hX hM h0 hJs hY hB
  gi_wp2
  gi_loopw [7, 8] (fun _ _ wr => ∃ (k f : Nat) (r : ByteArray), r.size ≤ s.size ∧ Hid (Boxes wr hi ob b1 b2 b3 r) ∧ Hid (Rest X k f r) ∧ Hid (MaxL wr) ∧ Hid (J k wr)) (fun _ _ wr => strAt wr b2)
  case atStart => exact ⟨0, s.size, s, Nat.le_refl _, HB0, HX0, HM0, HJ0⟩
  case round =>
    clear HB0 HX0 HM0 HJ0 c1
    obtain ⟨k, f, r, hrs, HB, HX, HM, HJ⟩ := hrel
    obtain ⟨m, hm1, hm2⟩ := HM.out
    have HI := Lib.hid (Tryd.strings_Index r sepA m wr (by omega) hm1)
    have hne := Lib.index_ge r.data.toList sepA.data.toList
    obtain ⟨c1, c2, f2, c3, _, _, _⟩ := HB.out
    clear hm1 hm2
    by_cases hi0 : Lib.index r.data.toList sepA.data.toList = -1
    · rw [hi0] at HI
      obtain ⟨x1, x2⟩ := HX.out.none hi0
      have HXl := Lib.hid x2
      obtain ⟨fn, tmps, assign, body, hy, hR⟩ := HY.out k r wr HJ.out x1
      clear hne hi0 x1 x2 HY HX
      gi_wp2_with (refine ⟨trivial, rfl, ?_⟩; gi_at_call 48; refine (callsIn_wide.2 HI.out).mono ?_; rintro e w' ⟨rfl, rfl⟩)
      refine ⟨rfl, hR.mono ?_⟩
      rintro e W3 (⟨rfl, hJ3, hS⟩ | ⟨rfl, hJx3⟩)
      · have HJ3 := Lib.hid hJ3
        clear hJ3 hS hR hy
        gi_wp2
        go_end0
        exact ⟨⟨_, rfl⟩, .inl (by rw [← HXl.out]; exact HJ3.out)⟩
      · have HJ3 := Lib.hid hJx3
        clear hJx3 hR hy
        gi_wp2
        go_end0
        exact ⟨⟨_, rfl⟩, .inr HJ3.out⟩
    · obtain ⟨i, hii⟩ : ∃ i : Nat, Lib.index r.data.toList sepA.data.toList = (i : Int) := ⟨(Lib.index r.data.toList sepA.data.toList).toNat, by omega⟩
      rw [hii] at HI
      obtain ⟨x1, x2, x3⟩ := HX.out.some hii
      have HX2 := Lib.hid x3
      obtain ⟨fn, tmps, assign, body, hy, hR⟩ := HY.out k (r.extract 0 i) wr HJ.out x1
      clear hne hi0 hii x1 x3
      gi_wp2_with (refine ⟨trivial, rfl, ?_⟩; gi_at_call 48; refine (callsIn_wide.2 HI.out).mono ?_; rintro e w' ⟨rfl, rfl⟩)
      refine ⟨rfl, hR.mono ?_⟩
      rintro e W3 (⟨rfl, hJ3, hS⟩ | ⟨rfl, hJx3⟩)
      · have hB3 := HB.out.still hS
        have HM3 := Lib.hid ((HM.out.still hS hm.1 hm.2.1).set hm.2.2 (.string (r.extract (i + 2) r.size)))
        have HB3 := Lib.hid (hB3.set (r.extract (i + 2) r.size))
        have HJ3 := Lib.hid (HJs.out _ _ (.string (r.extract (i + 2) r.size)) hJ3)
        have c1 := hB3.c1
        have c2 := hB3.c2
        have f2 := hB3.f2
        have hq : (r.extract (i + 2) r.size).size = r.size - (i + 2) := by simp
        have hmu : strAt (W3.setCell ⟨b2, 0, none⟩ (.string (r.extract (i + 2) r.size))) b2 < strAt w' b2 := by
          unfold strAt
          rw [HB3.out.c2, HB.out.c2]
          simp only
          omega
        clear hJ3 hS hR hy hB3 HY HB HM HJ HJs
        gi_wp2
        go_roundw
        case rel => exact ⟨k + 1, f - 1, r.extract (i + 2) r.size, by omega, HB3, HX2, HM3, HJ3⟩
        case measure => exact hmu
      · have HJ3 := Lib.hid hJx3
        clear hJx3 hR hy
        gi_wp2
        refine bodyPost_ret (results_none rfl _ _ _) rfl ?_
        exact ⟨⟨_, rfl⟩, .inr HJ3.out⟩
end Go.Proofs.YtckmkjkckadfjaaDoor

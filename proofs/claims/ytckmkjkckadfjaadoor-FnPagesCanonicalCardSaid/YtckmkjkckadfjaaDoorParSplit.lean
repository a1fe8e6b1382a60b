/- The reference's split at a byte. -/
import Derived.Test.YtckmkjkckadfjaaDoorParIntS
import Derived.Test.YtckmkjkckadfjaaDoorAppStr
import Derived.Test.YtckmkjkckadfjaaDoorIdxMem
namespace Go.Proofs.YtckmkjkckadfjaaDoor
open Go.RowKit
set_option maxHeartbeats 4000000
set_option maxRecDepth 100000
set_option linter.unusedVariables false

/-- What has been split when m parts are out, the next begins at f and no byte b lies from f up to i. -/
structure SpI (s : ByteArray) (b : UInt8) (n : Nat) (X : List ByteArray) (f i : Nat) : Prop where
  eq : Lib.splitK [b] 0 n s.data.toList = X.map (·.data.toList) ++ Lib.splitK [b] 0 (n - X.length) (s.data.toList.drop f)
  fi : f ≤ i
  no : ∀ j, f ≤ j → j < i → s.data.toList.getD j 0 ≠ b
  le : X.length ≤ n
theorem SpI.zero (s : ByteArray) (b : UInt8) (n : Nat) : SpI s b n [] 0 0 := ⟨by simp, Nat.le_refl _, fun j h1 h2 => by omega, by simp⟩
theorem SpI.next {s : ByteArray} {b : UInt8} {n f i : Nat} {X : List ByteArray} (h : SpI s b n X f i) (hb : s.data.toList.getD i 0 ≠ b) : SpI s b n X f (i + 1) :=
  ⟨h.eq, by have := h.fi; omega, fun j h1 h2 => by
    by_cases e : j = i
    · subst e; exact hb
    · exact h.no j h1 (by omega), h.le⟩
theorem drop_split {l : Bs} {f i : Nat} (h1 : f ≤ i) (h2 : i < l.length) : l.drop f = (l.drop f).take (i - f) ++ l.getD i 0 :: l.drop (i + 1) := by
  have e : l.drop i = l.getD i 0 :: l.drop (i + 1) := by
    rw [List.drop_eq_getElem_cons h2, List.getD_eq_getElem?_getD, List.getElem?_eq_getElem h2]; rfl
  rw [← e]
  conv => lhs; rw [← List.take_append_drop (i - f) (l.drop f), List.drop_drop, show f + (i - f) = i by omega]
theorem take_no {l : Bs} {b : UInt8} {f i : Nat} (h : ∀ j, f ≤ j → j < i → l.getD j 0 ≠ b) : ∀ c ∈ (l.drop f).take (i - f), c ≠ b := by
  intro c hc
  obtain ⟨k, hk, rfl⟩ := List.getElem_of_mem hc
  rw [List.length_take, List.length_drop] at hk
  have := h (f + k) (by omega) (by omega)
  rw [List.getElem_take, List.getElem_drop]
  rw [List.getD_eq_getElem?_getD, List.getElem?_eq_getElem (by omega)] at this
  exact this
theorem extract_bytes (s : ByteArray) (f i : Nat) (h : i ≤ s.size) : (s.extract f i).data.toList = (s.data.toList.drop f).take (i - f) := by
  rw [Lib.extract_data]
theorem SpI.cut {s : ByteArray} {b : UInt8} {n f i : Nat} {X : List ByteArray} (h : SpI s b n X f i) (hi : i < s.size) (hm : X.length < n) (hb : s.data.toList.getD i 0 = b) : SpI s b n (X ++ [s.extract f i]) (i + 1) (i + 1) := by
  have hl : s.data.toList.length = s.size := by simp
  refine ⟨?_, Nat.le_refl _, fun j h1 h2 => by omega, by simp; omega⟩
  have e := drop_split h.fi (by rw [hl]; exact hi)
  rw [hb] at e
  have hk : n - X.length = (n - (X ++ [s.extract f i]).length) + 1 := by simp; omega
  rw [h.eq, hk, e, splitK_one b _ _ (take_no h.no), List.map_append, List.append_assoc]
  congr 1
  rw [List.map_cons, List.map_nil, extract_bytes s f i (by omega), List.singleton_append]
theorem SpI.last {s : ByteArray} {b : UInt8} {n f i : Nat} {X : List ByteArray} (h : SpI s b n X f i) (hi : s.size ≤ i ∨ X.length = n) : Lib.splitK [b] 0 n s.data.toList = (X ++ [s.extract f s.size]).map (·.data.toList) := by
  have hl : s.data.toList.length = s.size := by simp
  rw [h.eq, List.map_append, List.map_cons, List.map_nil, Lib.extract_to_end]
  congr 1
  rcases hi with hi | hi
  · refine splitK_no b _ (fun c hc => ?_)
    obtain ⟨k, hk, rfl⟩ := List.getElem_of_mem hc
    rw [List.length_drop] at hk
    have := h.no (f + k) (by omega) (by omega)
    rw [List.getElem_drop]
    rw [List.getD_eq_getElem?_getD, List.getElem?_eq_getElem (by omega)] at this
    exact this
  · rw [hi, Nat.sub_self]; rfl
def Splitted (s : ByteArray) (b : UInt8) (n : Nat) (w : World) (e : Ending) (w' : World) : Prop :=
  ∃ (v : Value) (X : List ByteArray), e = .returned v ∧ X.map (·.data.toList) = Lib.splitK [b] 0 n s.data.toList ∧ w'.ownsRow w.heap.size 9 1 v X.length (X.map Value.string) ∧ Below w.heap.size w w'
theorem ssplit_any (s : ByteArray) (b : UInt8) (n : Nat) (w : World) (hs : s.size ≤ maxLen) (hn : n ≤ 1000) :
    Calls Tryd.prog 41 #[.string s, .int .u8 (b.toNat : Int), .int .i64 n] w (Splitted s b n w) := by
  unfold maxLen at hs
  have HO0 : Hid ((w.alloc (.cells #[] 9)).ownsRow w.heap.size 9 1 (.slice (some ⟨w.heap.size, 0, none⟩) 0 0) 0 (([] : List ByteArray).map Value.string)) := Lib.hid (World.ownsRow_lit w #[] 0 (Nat.le_refl _) (Nat.zero_le _) rfl)
  have HB0 : Hid (Below w.heap.size w (w.alloc (.cells #[] 9))) := Lib.hid ((Below.refl _ _).alloc (Nat.le_refl _) _)
  have HZ := Lib.hid (SpI.zero s b n)
  have HL : Hid (∀ X f i, SpI s b n X f i → (s.size ≤ i ∨ X.length = n) → Lib.splitK [b] 0 n s.data.toList = (X ++ [s.extract f s.size]).map (·.data.toList)) := Lib.hid (fun X f i h hi => h.last hi)
  go_enter Tryd.func41, Tryd.ntmps41
  go_wp2_with fail
  go_loopw [7, 8, 9] (fun v f i wr => ∃ (X : List ByteArray) (fn k : Nat) (vv : Value), k ≤ s.size ∧ fn ≤ k ∧ X.length ≤ n ∧ i = .int .i64 k ∧ f = .int .i64 fn ∧ vv = v ∧ Hid (SpI s b n X fn k) ∧ Hid (wr.ownsRow w.heap.size 9 1 vv X.length (X.map Value.string)) ∧ Hid (Below w.heap.size w wr)) (fun _ _ i _ => s.size - (intOf i).toNat)
  case atStart => exact ⟨[], 0, 0, _, by omega, by omega, by simp, rfl, rfl, rfl, HZ, HO0, HB0⟩
  case round =>
    clear HO0 HB0 HZ
    obtain ⟨X, fn, k, vv, hk, hfk, hXn, rfl, rfl, rfl, HI, HO, HB⟩ := hrel
    have hlo : w.heap.size ≤ wr.heap.size := HB.out.size
    obtain ⟨av, cv, hsh⟩ := row_shape HO.out
    subst hsh
    by_cases hgo : k < s.size ∧ X.length < n
    · obtain ⟨hlt, hm⟩ := hgo
      have hc := chS_at s k hlt
      have hcb := chS_byte s k
      have HC : Hid (chS s k = (s.data.toList.getD k 0).toNat) := Lib.hid rfl
      by_cases he : s.data.toList.getD k 0 = b
      · have HI2 := Lib.hid (HI.out.cut hlt hm he)
        have hee : ((chS s k : Int) == (b.toNat : Int)) = true := by rw [HC.out, he]; simp
        generalize chS s k = c at *
        clear HI he
        go_wp2_with (at_builtin; refine wpList_append_str wr.heap.size rfl rfl _ _ rfl w.heap.size (.slice av X.length cv) X.length X (s.extract fn k) HO.out rfl rfl (by omega) hlo ?_; intro v2 w2 h2 g2; have H2 := Lib.hid h2; have HB2 : Hid (Below w.heap.size w w2) := Lib.hid (HB.out.grown g2 hlo (fun j hj => (HO.out.lt j hj).1)); clear h2 g2)
        go_roundw
        case rel => exact ⟨X ++ [s.extract fn k], k + 1, k + 1, v2, by omega, by omega, by simp; omega, by go_num, by go_num, rfl, HI2, Lib.hid (by have := H2.out; simpa using this), HB2⟩
        case measure => simp [intOf]; omega
      · have HI2 := Lib.hid (HI.out.next he)
        have hee : ((chS s k : Int) == (b.toNat : Int)) = false := by
          rw [beq_eq_false_iff_ne, HC.out]
          intro e
          exact he (UInt8.toNat_inj.1 (by omega))
        generalize chS s k = c at *
        clear HI he
        go_wp2_with fail
        go_roundw
        case rel => exact ⟨X, fn, k + 1, _, by omega, by omega, hXn, by go_num, rfl, rfl, HI2, HO, HB⟩
        case measure => simp [intOf]; omega
    · have HF := Lib.hid (HL.out X fn k HI.out (by omega))
      have hfs : fn ≤ s.size := by omega
      clear HI HL
      by_cases hlt : k < s.size
      · have hm : X.length = n := by omega
        have hd : decide ((X.length : Int) < (n : Int)) = false := decide_eq_false (by omega)
        go_wp2_with (at_builtin; refine wpList_append_str wr.heap.size rfl rfl _ _ rfl w.heap.size (.slice av X.length cv) X.length X (s.extract fn s.size) HO.out rfl rfl (by omega) hlo ?_; intro v2 w2 h2 g2; have H2 := Lib.hid h2; have HB2 : Hid (Below w.heap.size w w2) := Lib.hid (HB.out.grown g2 hlo (fun j hj => (HO.out.lt j hj).1)); clear h2 g2)
        go_ret
        exact ⟨v2, X ++ [s.extract fn s.size], rfl, HF.out.symm, by have := H2.out; simpa using this, HB2.out⟩
      · obtain rfl : k = s.size := by omega
        go_wp2_with (at_builtin; refine wpList_append_str wr.heap.size rfl rfl _ _ rfl w.heap.size (.slice av X.length cv) X.length X (s.extract fn s.size) HO.out rfl rfl (by omega) hlo ?_; intro v2 w2 h2 g2; have H2 := Lib.hid h2; have HB2 : Hid (Below w.heap.size w w2) := Lib.hid (HB.out.grown g2 hlo (fun j hj => (HO.out.lt j hj).1)); clear h2 g2)
        go_ret
        exact ⟨v2, X ++ [s.extract fn s.size], rfl, HF.out.symm, by have := H2.out; simpa using this, HB2.out⟩
end Go.Proofs.YtckmkjkckadfjaaDoor

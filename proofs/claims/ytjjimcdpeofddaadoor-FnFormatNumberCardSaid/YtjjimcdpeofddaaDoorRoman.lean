/- Both Roman give romS. -/
import Derived.Test.YtjjimcdpeofddaaDoorRomanPlain
import Derived.Test.YtjjimcdpeofddaaDoorBuilder
import Derived.Test.YtjjimcdpeofddaaDoorRange
namespace Go.Proofs.YtjjimcdpeofddaaDoor
open Go.RowKit
set_option maxHeartbeats 1000000
set_option maxRecDepth 100000

/-- The table of signs as it lies in the package's variable. -/
def romTbl : Array Value := (signs.flatMap fun p => [Value.string ⟨p.1.toArray⟩, Value.int .i64 (p.2 : Int)]).toArray
def Laid0 (w : World) : Prop := ∃ t fr, w.heap[0]? = some (.cells romTbl t fr)
theorem Laid0.below {w w' : World} (h : Laid0 w) (hb : Below w.heap.size w w') : Laid0 w' := by
  obtain ⟨t, fr, h⟩ := h
  have hl : 0 < w.heap.size := by
    rcases Nat.lt_or_ge 0 w.heap.size with h' | h'
    · exact h'
    · simp [Array.getElem?_eq_none h'] at h
  exact ⟨t, fr, by rw [hb.block _ hl]; exact h⟩
def sgn (k : Nat) : ByteArray := ⟨(signs.getD k ([], 0)).1.toArray⟩
def vlu (k : Nat) : Nat := (signs.getD k ([], 0)).2
theorem lt13 (k : Nat) (hk : k < 13) : k = 0 ∨ k = 1 ∨ k = 2 ∨ k = 3 ∨ k = 4 ∨ k = 5 ∨ k = 6 ∨ k = 7 ∨ k = 8 ∨ k = 9 ∨ k = 10 ∨ k = 11 ∨ k = 12 := by omega
theorem index_tbl (k : Nat) (hk : k < 13) (w : World) : (Instr.index 41 (.agg romTbl) (.int .i64 (k : Int))).run Tryd.prog w = .ok (.agg #[.string (sgn k), .int .i64 (vlu k : Int)]) w := by
  rcases lt13 k hk with rfl | rfl | rfl | rfl | rfl | rfl | rfl | rfl | rfl | rfl | rfl | rfl | rfl <;> kernel_rfl
theorem vlu_pos (k : Nat) (hk : k < 13) : 1 ≤ vlu k ∧ vlu k ≤ 1000 ∧ (sgn k).size ≤ 2 := by
  have : ∀ k, k < 13 → 1 ≤ vlu k ∧ vlu k ≤ 1000 ∧ (sgn k).size ≤ 2 := by decide
  exact this k hk
theorem romGo_drop (k : Nat) (hk : k < 13) (n : Nat) : romGo (signs.drop k) n = rep (sgn k).data.toList (n / vlu k) ++ romGo (signs.drop (k + 1)) (n % vlu k) := by
  rcases lt13 k hk with rfl | rfl | rfl | rfl | rfl | rfl | rfl | rfl | rfl | rfl | rfl | rfl | rfl <;> rfl

theorem bld_alloc {B b : Nat} {l : List UInt8} {w : World} (h : Bld B b l w) (o : Obj) : Bld B b l (w.alloc o) := by
  have core : ∀ p, Lib.BuilderAt 38 5 B b p (Lib.byteCells l) w → Lib.BuilderAt 38 5 B b p (Lib.byteCells l) (w.alloc o) := by
    intro p h
    have hlt := h.lt
    obtain ⟨hB, v, hb, hown, hne⟩ := h
    exact ⟨hB, v, by rw [Below.heap_alloc w o b hlt]; exact hb, hown.alloc o, hne⟩
  exact h.elim (fun x => .inl (core _ x)) (fun x => .inr (core _ x))

theorem roman_in (n : Nat) (h1 : 1 ≤ n) (h2 : n ≤ 3999) (w : World) (hL : Laid0 w) :
    Calls Tryd.prog 11 #[.int .i64 n] w fun e w' => e = .returned (.string ⟨(romF n).toArray⟩) ∧ Below w.heap.size w w' := by
  have hw : (decide ((1:Int) ≤ (n : Int) ∧ (n : Int) ≤ 3999)) = true := by simp; omega
  have hlen := (parse_rom n (by omega)).2.2
  obtain ⟨t0, fr, hg⟩ := hL
  have hB := Lib.fresh_isBuilder 38 5 w
  have hb0 : Below w.heap.size w (w.alloc (.cells #[.pointer none, .slice none 0 0] 38)) := (Below.refl _ _).alloc (Nat.le_refl _) _
  have hg1 : (w.alloc (.cells #[.pointer none, .slice none 0 0] 38)).heap[0]? = some (.cells romTbl t0 fr) := by
    obtain ⟨t', fr', h'⟩ := Laid0.below ⟨t0, fr, hg⟩ hb0
    rw [hb0.block]
    · exact hg
    · rcases Nat.lt_or_ge 0 w.heap.size with h' | h'
      · exact h'
      · simp [Array.getElem?_eq_none h'] at hg
  have HB := Lib.hid hB
  have HB0 := Lib.hid hb0
  clear hB hb0 hg
  go_enter Tryd.func11, Tryd.ntmps11
  go_wp2_with (first | (go_at_call 22; refine (within_any _ _ _ _).mono ?_; rintro e w' ⟨rfl, rfl⟩) | (refine wpList_load_row rfl 41 _ rfl 0 rfl t0 romTbl fr _ hg1 Tryd.underlying41 rfl (by kernel_rfl) ?_))
  have hidx := index_tbl
  go_loopw [0, 10] (fun t i wr => ∃ (k m : Nat) (acc : List UInt8), k ≤ 13 ∧ t = .int .i64 m ∧ i = .int .i64 k ∧ m ≤ 3999 ∧ Hid (Bld w.heap.size w.heap.size acc wr) ∧ Hid (Below w.heap.size w wr) ∧ Hid (w.heap.size < wr.heap.size) ∧ Hid (acc ++ romGo (signs.drop k) m = romF n)) (fun _ i _ => 13 - (intOf i).toNat)
  case atStart => exact ⟨0, n, [], by omega, rfl, rfl, h2, HB.out, HB0.out, Lib.hid (by simp), rfl⟩
  case round =>
    obtain ⟨k, m, acc, hk, rfl, rfl, hm, HBl, HBe, HSz, HE⟩ := hrel
    obtain ⟨wo, rfl⟩ : ∃ wo : World, wo = wr := ⟨_, rfl⟩
    by_cases hlt : k < 13
    · have hix := hidx k hlt
      obtain ⟨hv1, hv2, hs2⟩ := vlu_pos k hlt
      have HE' : Hid (acc ++ (rep (sgn k).data.toList (m / vlu k) ++ romGo (signs.drop (k + 1)) (m % vlu k)) = romF n) := by
        have h := HE.out
        rw [romGo_drop k hlt] at h
        exact h
      clear hidx HE hg1 HB HB0
      generalize sgn k = s at *
      generalize vlu k = v at *
      have HBl1 : Hid (Bld w.heap.size w.heap.size acc (wo.alloc (.cells #[.string s, .int .i64 (v : Int)] 40))) := bld_alloc HBl.out _
      have HBe1 : Hid (Below w.heap.size w (wo.alloc (.cells #[.string s, .int .i64 (v : Int)] 40))) := HBe.out.alloc (Nat.le_of_lt HSz.out) _
      have HX1 : Hid ((wo.alloc (.cells #[.string s, .int .i64 (v : Int)] 40)).heap[wo.heap.size]? = some (.cells #[.string s, .int .i64 (v : Int)] 40 (0, 0))) := heap_alloc_new wo _
      have hrb : w.heap.size ≠ wo.heap.size := by have := HSz.out; omega
      have hk13 : decide ((k : Int) < 13) = true := by simp; omega
      clear HBl
      go_wp2_with fail
      go_loopw [0] (fun t wr => ∃ (m : Nat) (acc : List UInt8), t = .int .i64 m ∧ m ≤ 3999 ∧ Hid (Bld w.heap.size w.heap.size acc wr) ∧ Hid (Below w.heap.size w wr) ∧ Hid (wr.heap[wo.heap.size]? = some (.cells #[.string s, .int .i64 (v : Int)] 40 (0, 0))) ∧ Hid (w.heap.size < wr.heap.size) ∧ Hid (acc ++ (rep s.data.toList (m / v) ++ romGo (signs.drop (k + 1)) (m % v)) = romF n)) (fun t _ => (intOf t).toNat)
      case atStart => exact ⟨m, acc, rfl, hm, HBl1, HBe1, HX1, Lib.hid (by have := HSz.out; simp; omega), HE'⟩
      case round =>
        clear HBl1 HBe1 HX1 HE' HBe hm
        obtain ⟨m, acc, rfl, hm, HBl, HBe, HX, HSz, HE⟩ := hrel
        have x0 : wr.cell? ⟨wo.heap.size, 0, none⟩ = some (.string s) := by rw [Lib.cell_of_heap HX.out]; rfl
        have x1 : wr.cell? ⟨wo.heap.size, 1, none⟩ = some (.int .i64 (v : Int)) := by rw [Lib.cell_of_heap HX.out]; rfl
        by_cases hvm : v ≤ m
        · have HE' : Hid ((acc ++ s.data.toList) ++ (rep s.data.toList ((m - v) / v) ++ romGo (signs.drop (k + 1)) ((m - v) % v)) = romF n) := by
            have h := HE.out
            rw [rep_step _ _ _ _ (by omega) hvm] at h
            exact Lib.hid (by rw [List.append_assoc]; exact h)
          have hal : acc.length ≤ 15 := by
            have h := congrArg List.length HE.out
            rw [List.length_append] at h
            omega
          have hsub : (m : Int) - v = ((m - v : Nat) : Int) := by omega
          have HSub := Lib.hid hsub
          clear hsub
          go_wp2_with fail
          refine (writeString_any w.heap.size w.heap.size acc s _ HBl.out (by omega) (by have := HSz.out; omega)).mono ?_
          rintro e w1 ⟨rfl, hB1, hb1, ho1⟩
          have hX1 : w1.heap[wo.heap.size]? = some (.cells #[.string s, .int .i64 (v : Int)] 40 (0, 0)) := ho1 _ _ HX.out (by simpa using fun e => hrb e.symm) (by rintro c fz e; injection e with _ e2; exact absurd e2 (by decide))
          have y1 : w1.cell? ⟨wo.heap.size, 1, none⟩ = some (.int .i64 (v : Int)) := by rw [Lib.cell_of_heap hX1]; rfl
          have HX1 := Lib.hid hX1
          have HB1 := Lib.hid hB1
          have HBe1 : Hid (Below w.heap.size w w1) := HBe.out.trans hb1
          have HS1 : Hid (w.heap.size < w1.heap.size) := Nat.lt_of_lt_of_le HSz.out hb1.size
          clear hX1 hB1 hb1 ho1
          go_wp2_with fail
          rw [HSub.out]
          go_roundw
          case rel => exact ⟨m - v, _, rfl, by omega, HB1, HBe1, HX1, HS1, HE'⟩
          case measure => simp [intOf]; omega
        · have HE' : Hid (acc ++ romGo (signs.drop (k + 1)) m = romF n) := by
            have h := HE.out
            rw [rep_stop _ _ _ _ (by omega)] at h
            exact h
          go_wp2_with fail
          go_roundw
          case rel => exact ⟨k + 1, m, acc, by omega, rfl, by go_num, hm, HBl, HBe, HSz, HE'⟩
          case measure => simp [intOf]; omega
    · obtain rfl : k = 13 := by omega
      have HE' : Hid (acc = romF n) := by
        have h := HE.out
        rw [show signs.drop 13 = [] from rfl] at h
        exact Lib.hid (by simpa [romGo] using h)
      clear HE hidx
      go_wp2_with fail
      refine (bld_string w.heap.size w.heap.size acc _ HBl.out (by have := HSz.out; omega)).mono ?_
      rintro e w1 ⟨rfl, hb1⟩
      have HB1 := Lib.hid (HBe.out.trans hb1)
      clear hb1
      go_wp2_with fail
      go_ret
      exact ⟨by rw [HE'.out]; rfl, HB1.out⟩

theorem roman_any (n : Int) (w : World) (hL : Laid0 w) :
    Calls Tryd.prog 11 #[.int .i64 n] w fun e w' => e = .returned (.string ⟨(romS n).toArray⟩) ∧ Below w.heap.size w w' := by
  unfold romS
  by_cases h : 1 ≤ n ∧ n ≤ 3999
  · obtain ⟨m, rfl⟩ := Int.eq_ofNat_of_zero_le (show 0 ≤ n by omega)
    rw [if_pos h, Int.toNat_natCast]
    exact roman_in m (by omega) (by omega) w hL
  · rw [if_neg h]
    have hw : (decide ((1:Int) ≤ n ∧ n ≤ 3999)) = false := by simpa using h
    go_enter Tryd.func11, Tryd.ntmps11
    go_wp2_with (go_at_call 22; refine (within_any _ _ _ _).mono ?_; rintro e w' ⟨rfl, rfl⟩)
    go_ret
    exact ⟨rfl, Below.refl _ _⟩
end Go.Proofs.YtjjimcdpeofddaaDoor

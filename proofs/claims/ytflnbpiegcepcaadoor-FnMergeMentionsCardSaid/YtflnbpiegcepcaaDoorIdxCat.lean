/- slices.Concat of two slices of ints; sorting and compacting the row that it makes. -/
import Derived.Test.YtflnbpiegcepcaaDoorIdxMem
import Derived.Test.YtflnbpiegcepcaaDoorEqualInts
import Derived.Test.YtflnbpiegcepcaaDoorShelf
import Derived.Lib.AppendZeros
import Derived.Lib.OwnBridge
import Derived.Sort.Grow
import Derived.Laws.AppendOwnNone
namespace Go.Proofs.YtflnbpiegcepcaaDoor
open Go.RowKit
set_option maxHeartbeats 2000000
set_option maxRecDepth 100000
set_option linter.unusedVariables false

theorem run_append_nilc {P : Program} {w : World} (base : Nat) (t ty e : TypeId) (i : TypeInfo) (size : Nat) (ht : P.underlying t = some (.slice e)) (hi : P.info? e = some i)
    (v : Value) (n : Nat) (xs : List Value) (c : Nat) (hown : w.ownsRow base e size v n xs) :
    (Builtin.append_ #[t, t] ty #[v, .slice none 0 c]).run P w = .ok v w := by
  rcases hown.2 with ⟨rfl, rfl⟩ | ⟨g, cap, cur, rfl, _, _, hnc, _⟩
  · simp [Builtin.append_, run_underlying ht, sizeOf, typeInfo, hi, Builtin.lenOf, Builtin.firstCells]
  · simp [Builtin.append_, run_underlying ht, sizeOf, typeInfo, hi, Builtin.lenOf, Builtin.firstCells, hnc, storeCells]
/-- A slice that can be read appended to a row of the call's own. -/
theorem wpList_append_sl {ops : Array Oper} {rest : List Oper} {o : Oper} {a : Act} {Q : Exit → Act → World → Prop} {w : World} (hgd : o.guard = none) (s x : Operand)
    (ho : o.op = .call { callee := .builtin .append, args := #[s, x], argTypes := #[22, 22] }) (B : Nat) (v vx : Value) (n : Nat) (L M : List Int)
    (hown : w.ownsRow B 3 1 v n (L.map (Value.int .i64))) (hs : a.eval s = v) (hx : a.eval x = vx) (hox : SlI w vx M) (h63 : n + M.length ≤ 1000000000) (hbase : B ≤ w.heap.size)
    (h : ∀ v' w', w'.ownsRow B 3 1 v' (n + M.length) ((L ++ M).map (Value.int .i64)) → w.grownBy w' v.ownBlock → wpList Tryd.prog ops Q rest (a.put o.dst v') w') :
    wpList Tryd.prog ops Q (o :: rest) a w := by
  obtain ⟨i0, hi0, hz0, hz1, hz2⟩ := info_parts intInfo
  obtain ⟨ad, cap, rfl, h1, h2, h3⟩ := hox
  cases ad with
  | none =>
    rcases h3 with rfl | ⟨b, off, e, _⟩
    · refine wpList_plain hgd fun K hK => ?_
      have hrun := run_append_nilc (P := Tryd.prog) (w := w) B 22 o.type 3 i0 1 Tryd.underlying22 hi0 v n _ cap hown
      unfold Oper.wp
      simp [execOp, ho, resolve, invoke, builtin, hs, hx, hrun, Result.andThen]
      exact hK _ _ (h v w (by simpa using hown) (World.grownBy.refl _ _))
    · cases e
  | some ad =>
    refine wpList_append_own _ hgd s x 22 ho B 3 i0 (.int .i64 0) 1 8 Tryd.underlying22 hi0 hz0 hz1 hz2 rfl (by decide) v n _ hs hown ad M.length cap (M.map (Value.int .i64)) hx (by simp) ?_ (by intro u hu; obtain ⟨z, _, rfl⟩ := List.mem_map.1 hu; rfl) (by unfold maxLen; omega) (by omega) hbase ?_
    · intro j u hj
      have hlt : j < M.length := by
        rcases Nat.lt_or_ge j M.length with h | h
        · exact h
        · rw [List.getElem?_eq_none (by simpa using h)] at hj; cases hj
      rcases h3 with rfl | ⟨b, off, e, hb, hc⟩
      · simp at hlt
      · injection e with e; subst e
        have e : (⟨b, off, none⟩ : Addr).add j = ⟨b, off + j, none⟩ := by unfold Addr.add; split <;> simp_all
        rw [e, hc j hlt, ← hj, getD_map_int M j hlt]
    · intro v' w' h4 h5 _
      exact h v' w' (by simpa using h4) h5

def Grew (n : Nat) (w : World) (e : Ending) (w' : World) : Prop := ∃ G, e = .returned (.slice (some ⟨w.heap.size, 0, none⟩) 0 G) ∧ w'.ownsRow w.heap.size 3 1 (.slice (some ⟨w.heap.size, 0, none⟩) 0 G) 0 [] ∧ Below w.heap.size w w'
theorem grow_any (n : Nat) (w : World) (h0 : 0 < n) (hn : n ≤ 1000000) :
    Calls Tryd.prog 94 #[.slice none 0 0, .int .i64 n] w (Grew n w) := by
  obtain ⟨i0, hi0, hz0, hz1, hz2⟩ := info_parts intInfo
  have hrz : ∀ ty, (Builtin.append_ #[22, 3] ty #[.slice none 0 0, .int .i64 n]).run Tryd.prog w = _ := fun ty => Lib.run_append_nil_zeros w 22 3 ty 3 i0 _ .i64 .i64 Tryd.underlying22 Tryd.underlying3 hi0 hz0 n h0 (by omega) (by omega) (by rw [hz2]; omega)
  have hG := grownCap_ge w n 0 3
  have hGm := grownCap_le_maxLen w n 0 3 (by unfold maxLen; omega)
  generalize grownCap w n 0 3 = G at *
  have hE : Hid (Grew n w (.returned (.slice (some ⟨w.heap.size, 0, none⟩) 0 G)) (w.drew.alloc (.cells (Builtin.zeroCells (Value.int .i64 0).cells n ++ Builtin.zeroCells (Value.int .i64 0).cells (G - n)) 3))) :=
    Lib.hid ⟨G, rfl, World.ownsRow_made w.drew _ G (Nat.le_refl _) hGm (by simp [size_zeroCells, Value.cells]; omega), (Below.refl _ _).drew.alloc (Nat.le_refl _) _⟩
  have HRZ := Lib.hid hrz
  unfold maxLen at hGm
  have hd : decide ((0 : Int) < n) = true := decide_eq_true (by omega)
  have hd2 : (0 : Int) < n := by omega
  clear hrz hi0 hz0 hz1 hz2
  generalize Builtin.zeroCells (Value.int .i64 0).cells n ++ Builtin.zeroCells (Value.int .i64 0).cells (G - n) = ROW at *
  go_enter Tryd.func94, Tryd.ntmps94
  go_wp2_with (at_builtin; refine Lib.wpList_append_run _ rfl _ _ _ _ rfl _ _ rfl rfl _ _ (HRZ.out _) ?_)
  go_ret
  exact hE.out

def cat2 (L P : List Int) (k : Nat) : List Int := if k = 0 then [] else if k = 1 then L else L ++ P
theorem concat_any (g : Nat) (v1 v2 : Value) (L P : List Int) (w : World) (c0 : w.cell? ⟨g, 0, none⟩ = some v1) (c1 : w.cell? ⟨g, 1, none⟩ = some v2) (h1 : SlI w v1 L) (h2 : SlI w v2 P) (hl0 : 0 < L.length + P.length) (hl : L.length + P.length ≤ 1000000) :
    Calls Tryd.prog 76 #[.slice (some ⟨g, 0, none⟩) 2 2] w (GaveI (L ++ P) w) := by
  have H1 := Lib.hid h1
  have H2 := Lib.hid h2
  obtain ⟨a1, p1, rfl, _⟩ := h1
  obtain ⟨a2, p2, rfl, _⟩ := h2
  have HL := Lib.hid (World.block_lt_of_cell? w _ c0)
  have HC0 := Lib.hid c0
  have HC1 := Lib.hid c1
  have HK : Hid (cat2 L P 0 = [] ∧ cat2 L P 1 = L ∧ cat2 L P 2 = L ++ P) := Lib.hid ⟨rfl, rfl, rfl⟩
  go_enter Tryd.func76, Tryd.ntmps76
  go_wp2_with fail
  go_loop [3, 11] (fun s i => ∃ k : Nat, k ≤ 2 ∧ i = .int .i64 k ∧ Hid (s = .int .i64 ((cat2 L P k).length : Nat))) (fun _ i => 2 - (intOf i).toNat)
  case atStart => exact ⟨0, by omega, rfl, Lib.hid rfl⟩
  case round =>
    obtain ⟨k, hk, rfl, HS⟩ := hrel
    obtain rfl | rfl | rfl : k = 0 ∨ k = 1 ∨ k = 2 := by omega
    · have hS := HS.out
      rw [HK.out.1] at hS
      obtain rfl := hS
      have hc0 := HC0.out
      have hd : decide ((L.length : Int) < 0) = false := decide_eq_false (by omega)
      go_wp2_with fail
      go_round
      case rel => exact ⟨1, by omega, rfl, Lib.hid (by rw [HK.out.2.1])⟩
      case measure => simp [intOf]
    · have hS := HS.out
      rw [HK.out.2.1] at hS
      obtain rfl := hS
      have hc1 := HC1.out
      have hd : decide ((L.length : Int) + (P.length : Int) < 0) = false := decide_eq_false (by omega)
      have hw1 : IntKind.i64.wrap ((L.length : Int) + (P.length : Int)) = (L.length : Int) + (P.length : Int) := IntWalk.i64_in _ (by omega)
      go_wp2_with fail
      go_round
      case rel => exact ⟨2, by omega, rfl, Lib.hid (by rw [HK.out.2.2, List.length_append]; simp)⟩
      case measure => simp [intOf]
    · have hS := HS.out
      rw [HK.out.2.2, List.length_append] at hS
      obtain rfl := hS
      obtain ⟨N, hN⟩ : ∃ N, L.length + P.length = N := ⟨_, rfl⟩
      have HN := Lib.hid hN
      rw [hN] at hl0 hl ⊢
      clear hN HS
      go_wp2_with fail
      refine (grow_any N w hl0 hl).mono ?_
      rintro e w1 ⟨G, rfl, o1, b1⟩
      have HO1 : Hid (w1.ownsRow w.heap.size 3 1 (.slice (some ⟨w.heap.size, 0, none⟩) 0 G) (cat2 L P 0).length ((cat2 L P 0).map (Value.int .i64))) := Lib.hid (by rw [HK.out.1]; exact o1)
      have HB1 := Lib.hid b1
      clear o1 b1
      go_wp2_with fail
      go_loopw [6, 27] (fun v i wr => ∃ k : Nat, k ≤ 2 ∧ i = .int .i64 k ∧ Hid (wr.ownsRow w.heap.size 3 1 v (cat2 L P k).length ((cat2 L P k).map (Value.int .i64))) ∧ Hid (Below w.heap.size w wr)) (fun _ i _ => 2 - (intOf i).toNat)
      case atStart => exact ⟨0, by omega, rfl, HO1, HB1⟩
      case round =>
        clear HO1 HB1
        obtain ⟨k, hk, rfl, HO, HB⟩ := hrel
        obtain rfl | rfl | rfl : k = 0 ∨ k = 1 ∨ k = 2 := by omega
        · have hO := HO.out
          rw [HK.out.1] at hO
          have hc0 := HC0.out
          rw [← (bcell HB.out).1 _ _ HL.out] at hc0
          have hsl := H1.out.below HB.out
          have hbs := HB.out.size
          go_wp2_with (at_builtin; refine wpList_append_sl rfl _ _ rfl w.heap.size _ _ 0 [] L hO rfl rfl hsl (by have := HN.out; omega) hbs ?_; intro v' w2 h2 h3)
          have HO2 : Hid (w2.ownsRow w.heap.size 3 1 v' (cat2 L P 1).length ((cat2 L P 1).map (Value.int .i64))) := Lib.hid (by rw [HK.out.2.1]; simpa using h2)
          have HB2 : Hid (Below w.heap.size w w2) := Lib.hid (HB.out.grown h3 hbs (fun j hj => (hO.lt j hj).1))
          clear h2 h3 hO hsl hc0
          go_wp2_with fail
          go_roundw
          case rel => exact ⟨1, by omega, rfl, HO2, HB2⟩
          case measure => simp [intOf]
        · have hO := HO.out
          rw [HK.out.2.1] at hO
          have hc1 := HC1.out
          rw [← (bcell HB.out).1 _ _ HL.out] at hc1
          have hsl := H2.out.below HB.out
          have hbs := HB.out.size
          go_wp2_with (at_builtin; refine wpList_append_sl rfl _ _ rfl w.heap.size _ _ L.length L P hO rfl rfl hsl (by have := HN.out; omega) hbs ?_; intro v' w2 h2 h3)
          have HO2 : Hid (w2.ownsRow w.heap.size 3 1 v' (cat2 L P 2).length ((cat2 L P 2).map (Value.int .i64))) := Lib.hid (by rw [HK.out.2.2, List.length_append]; exact h2)
          have HB2 : Hid (Below w.heap.size w w2) := Lib.hid (HB.out.grown h3 hbs (fun j hj => (hO.lt j hj).1))
          clear h2 h3 hO hsl hc1
          go_wp2_with fail
          go_roundw
          case rel => exact ⟨2, by omega, rfl, HO2, HB2⟩
          case measure => simp [intOf]
        · have hO := HO.out
          rw [HK.out.2.2] at hO
          have HOO := Lib.hid hO
          clear hO HO
          go_wp2_with fail
          go_ret
          exact ⟨_, rfl, ⟨HOO.out, fun j hj => (HOO.out.lt j hj).2, Nat.le_refl _⟩, HB.out⟩

theorem ownI_slice {lo hi : Nat} {w : World} {v : Value} {L : List Int} (h : OwnI lo hi w v L) : ∃ a c, v = .slice a L.length c := by obtain ⟨a, c, rfl, _⟩ := h.sl; exact ⟨a, c, rfl⟩
theorem grownBy_putRow {w : World} {g n : Nat} {d : Array Int} : w.grownBy (Go.Sort.putRow (Value.int .i64) (Go.Sort.ahead w n) g 0 d) (some g) := by
  refine ⟨rfl, rfl, rfl, by simp [Go.Sort.putRow, Go.Sort.mapBlock, Go.Sort.ahead], fun k hk hne => ?_⟩
  have : g ≠ k := fun e => hne (by rw [e])
  simp [Go.Sort.putRow, Go.Sort.mapBlock, Go.Sort.ahead, Array.getElem?_modify, this]
theorem sort_own (lo hi : Nat) (v : Value) (zs : List Int) (w : World) (h : OwnI lo hi w v zs) (hn : zs ≠ []) (hl : zs.length ≤ 1000000) :
    Calls Tryd.prog 77 #[v] w fun e w' => e = .returned (.tuple #[]) ∧ OwnI lo hi w' v (zs.mergeSort fun x y => decide (x ≤ y)) ∧ w.grownBy w' v.ownBlock := by
  have hv : v ≠ .slice none 0 0 := by
    intro e; subst e
    have := h.sl
    obtain ⟨a, c, e, _⟩ := this
    injection e with _ e _
    exact hn (List.length_eq_zero_iff.1 e.symm)
  obtain ⟨g, cap, rfl, hlo, hg, hc, hm, hzl, hH⟩ := Lib.holds_of_ownsRow h.row hv
  have htop := h.top g rfl
  refine (Tryd.slices_Sort_int g 0 cap zs w hH hg (by omega)).mono ?_
  rintro e w' ⟨rfl, n, os, rfl⟩
  have hyl : (zs.mergeSort fun x y => decide (x ≤ y)).length = zs.length := List.length_mergeSort zs
  have hrow := Lib.ownsRow_putRow (q := n) (ys := zs.mergeSort fun x y => decide (x ≤ y)) (k := zs.length) h.row hyl (Nat.le_refl _)
  rw [List.take_of_length_le (by omega)] at hrow
  refine ⟨rfl, ⟨?_, fun k hk => h.top k hk, Nat.le_trans h.fits (by simp [Go.Sort.ahead])⟩, grownBy_trans grownBy_putRow ⟨rfl, rfl, rfl, by simp, fun k hk _ => Go.Sort.heap_grow_old _ _ hk⟩⟩
  rw [hyl]
  exact row_same hrow (fun k hk => Go.Sort.heap_grow_old _ _ (by simp [Value.ownBlock] at hk; subst hk; simpa [Go.Sort.ahead] using hg))
theorem compact_own (lo hi : Nat) (v : Value) (zs : List Int) (w : World) (h : OwnI lo hi w v zs) (hn : zs ≠ []) (hl : zs.length ≤ 1000000) :
    Calls Tryd.prog 78 #[v] w fun e w' => ∃ v', e = .returned v' ∧ OwnI lo hi w' v' (Lib.compact zs) ∧ w.grownBy w' v.ownBlock ∧ v'.ownBlock = v.ownBlock := by
  have hv : v ≠ .slice none 0 0 := by
    intro e; subst e
    have := h.sl
    obtain ⟨a, c, e, _⟩ := this
    injection e with _ e _
    exact hn (List.length_eq_zero_iff.1 e.symm)
  obtain ⟨g, cap, rfl, hlo, hg, hc, hm, hzl, hH⟩ := Lib.holds_of_ownsRow h.row hv
  refine (Tryd.slices_Compact_int g 0 cap zs w hH (by omega) hc).mono ?_
  rintro e w' ⟨rfl, q, rfl⟩
  have hcl := Lib.compact_length_le zs
  have hrow := Lib.ownsRow_putRow (q := q) (ys := Lib.compact zs ++ List.replicate (zs.length - (Lib.compact zs).length) 0) (k := (Lib.compact zs).length) h.row (by simp; omega) hcl
  rw [List.take_left] at hrow
  exact ⟨_, rfl, ⟨hrow, fun k hk => h.top k hk, Nat.le_trans h.fits (by simp [Go.Sort.ahead])⟩, grownBy_putRow, rfl⟩
end Go.Proofs.YtflnbpiegcepcaaDoor

/- slices.Insert at entries. -/
import Derived.Test.YtflnbpiegcepcaaDoorIdxMem
import Derived.Lib.Overlaps
import Derived.Lib.AppendZerosOnto
import Derived.Lib.AppendZeros
import Derived.Laws.CopyOwn
import Derived.Laws.NewBlocks
import Derived.Laws.Externs
namespace Go.Proofs.YtflnbpiegcepcaaDoor
open Go.RowKit
set_option maxHeartbeats 4000000
set_option maxRecDepth 100000
set_option linter.unusedVariables false

/-- A copy of elements of several cells into a row that is known whole. -/
theorem run_copy_rowK {P : Program} (w : World) (dT sT ty elem : TypeId) (size g o dLen dCap : Nat) (a : Addr) (sLen sCap : Nat) (cur : Array Value) (t : TypeId) (cs : List Value)
    (hu : P.underlying dT = some (.slice elem)) (hs : (P.info? elem).map (·.size) = some size)
    (hg : w.heap[g]? = some (.cells cur t (0, 0))) (hn : cs.length = Nat.min sLen dLen * size)
    (hsrc : ∀ j v, cs[j]? = some v → w.cell? (a.add j) = some v) (hfit : o + cs.length ≤ cur.size) (h1 : ∀ v ∈ cs, v.oneCell' = true) :
    (Builtin.copy_ #[dT, sT] ty #[.slice (some ⟨g, o, none⟩) dLen dCap, .slice (some a) sLen sCap]).run P w =
      .ok (goInt (Nat.min sLen dLen)) (w.setRow g (cur.toList.take o ++ cs ++ cur.toList.drop (o + cs.length)).toArray) := by
  have hl := run_loadCells_list (P := P) w a cs hsrc
  have hst := run_storeCells_at P g o t cs 0 cur w hg (by simpa using hfit) h1
  cases hq : P.info? elem with
  | none => simp [hq] at hs
  | some i =>
    have hi : i.size = size := by simpa [hq] using hs
    simp [Builtin.copy_, run_underlying hu, Builtin.lenOf, Builtin.firstCells, sizeOf, typeInfo, hq, hi, ← hn, hl, hst]
theorem wpList_copy_runK {P : Program} (w : World) {ops : Array Oper} {rest : List Oper} {o : Oper} {a : Act} {Q : Exit → Act → World → Prop} (hgd : o.guard = none) (d s : Operand) (t t' : TypeId)
    (ho : o.op = .call { callee := .builtin .copy, args := #[d, s], argTypes := #[t, t'] }) (v u : Value) (hd : a.eval d = v) (hs : a.eval s = u) {v' : Value} {w' : World}
    (hr : (Builtin.copy_ #[t, t'] o.type #[v, u]).run P w = .ok v' w') (h : wpList P ops Q rest (a.put o.dst v') w') : wpList P ops Q (o :: rest) a w := by
  refine wpList_plain hgd fun K hK => ?_
  unfold Oper.wp execOp
  simp only [ho, resolve, invoke, builtin, Sem.run_bind, Sem.run_pure, Result.andThen_ok, List.map_toArray, List.map_cons, List.map_nil, hd, hs, hr]
  exact hK _ _ h
theorem step_copy_runK {P : Program} {ops : Array Oper} {o : Oper} {a : Act} {w : World} {K : Act → World → Prop} {Q : Exit → Act → World → Prop} {E : Prop}
    (hg : o.guard = none) (d x : Operand) (dT sT : TypeId) (hop : o.op = Op.call { callee := Callee.builtin Builtin.copy, args := #[d, x], argTypes := #[dT, sT] })
    (v u : Value) (hd : a.eval d = v) (hx : a.eval x = u) {v' : Value} {w' : World} (hr : (Builtin.copy_ #[dT, sT] o.type #[v, u]).run P w = .ok v' w') (hK : K (a.put o.dst v') w') :
    if Region.wanted o (yielded ops a.tmps) = true then Oper.wp P o a w K Q else E := by
  have hw : Region.wanted o (yielded ops a.tmps) = true := by simp [Region.wanted, hg]
  rw [if_pos hw]
  unfold Oper.wp
  simp [execOp, hop, resolve, invoke, builtin, hd, hx, hr, Result.andThen]
  exact hK

theorem wpList_append_ent {w : World} {ops : Array Oper} {rest : List Oper} {o : Oper} {a : Act} {Q : Exit → Act → World → Prop} (hgd : o.guard = none) (s x : Operand)
    (ho : o.op = .call { callee := .builtin .append, args := #[s, x], argTypes := #[35, 35] }) (B : Nat) (v : Value) (n : Nat) (xs : List Value)
    (hown : w.ownsRow B 40 2 v n xs) (hs : a.eval s = v) (ad : Addr) (m c : Nat) (news : List Value) (hx : a.eval x = .slice (some ad) m c) (hl : news.length = m * 2) (hnews : ∀ j u, news[j]? = some u → w.cell? (ad.add j) = some u) (h1 : ∀ u ∈ news, u.oneCell' = true)
    (h63 : n + m ≤ 2000000) (hbase : B ≤ w.heap.size)
    (h : ∀ v' w', w'.ownsRow B 40 2 v' (n + m) (xs ++ news) → w.grownBy w' v.ownBlock → (∀ k, v'.ownBlock = some k → v.ownBlock = some k ∨ w.heap.size ≤ k) → wpList Tryd.prog ops Q rest (a.put o.dst v') w') : wpList Tryd.prog ops Q (o :: rest) a w := by
  refine wpList_plain hgd fun K hK => ?_
  obtain ⟨v', w', hr, h2, h3, h4⟩ := run_append_ent (w := w) o.type B v n xs hown ad m c news hl hnews h1 h63 hbase
  unfold Oper.wp execOp
  simp only [ho, resolve, invoke, builtin, Sem.run_bind, Sem.run_pure, Result.andThen_ok, List.map_toArray, List.map_cons, List.map_nil, hs, hx, hr]
  exact hK _ _ (h v' w' h2 h3 h4)

/-- What slices.Insert gives: the row with one entry more; other blocks stand. -/
def Inserted (B : Nat) (w : World) (v : Value) (n i : Nat) (C : List Value) (x y : Value) (e : Ending) (w' : World) : Prop :=
  ∃ v', e = .returned v' ∧ w'.ownsRow B 40 2 v' (n + 1) (C.take (i * 2) ++ x :: y :: C.drop (i * 2)) ∧ w.grownBy w' v.ownBlock ∧ (∀ k, v'.ownBlock = some k → v.ownBlock = some k ∨ w.heap.size ≤ k)
theorem cell_lit {w : World} {vb : Nat} {x y : Value} {T : TypeId} (h : w.heap[vb]? = some (.cells #[x, y] T (0, 0))) : ∀ j u, [x, y][j]? = some u → w.cell? ((⟨vb, 0, none⟩ : Addr).add j) = some u := by
  intro j u hj
  have e : (⟨vb, 0, none⟩ : Addr).add j = ⟨vb, j, none⟩ := by simp [Addr.add]; omega
  rw [e]
  match j, hj with
  | 0, hj => simp at hj; subst hj; simp [World.cell?, h]
  | 1, hj => simp at hj; subst hj; simp [World.cell?, h]
  | j + 2, hj => simp at hj

theorem insert_end (B : Nat) (v : Value) (n : Nat) (C : List Value) (x y : Value) (vb : Nat) (w : World) (hown : w.ownsRow B 40 2 v n C) (hB : B ≤ w.heap.size) (hn : n ≤ 1000)
    (hvb : w.heap[vb]? = some (.cells #[x, y] 40 (0, 0))) (hx : x.oneCell' = true) (hy : y.oneCell' = true) :
    Calls Tryd.prog 75 #[v, .int .i64 n, .slice (some ⟨vb, 0, none⟩) 1 1] w (Inserted B w v n n C x y) := by
  have HL := Lib.hid (cell_lit hvb)
  have HO := Lib.hid hown
  have HC : Hid (C.take (n * 2) = C ∧ C.drop (n * 2) = []) := Lib.hid (by
    have := hown.1
    exact ⟨List.take_of_length_le (by omega), List.drop_eq_nil_of_le (by omega)⟩)
  have hone : ∀ u ∈ [x, y], u.oneCell' = true := by intro u hu; simp at hu; rcases hu with rfl | rfl; exact hx; exact hy
  have HOne := Lib.hid hone
  obtain ⟨a, cap, rfl⟩ := row_shape hown
  have hcap : n ≤ cap ∧ cap ≤ maxLen := by
    rcases hown.2 with ⟨e, rfl⟩ | ⟨g, cap', cur, e, _, _, h3, h4, _⟩
    · injection e with _ _ e; subst e; exact ⟨Nat.le_refl _, Nat.zero_le _⟩
    · injection e with _ _ e; subst e; exact ⟨h3, h4⟩
  obtain ⟨hc1, hc2⟩ := hcap
  unfold maxLen at hc2
  clear hown hvb hx hy hone
  by_cases hq : cap = n
  · subst hq
    go_enter Tryd.func75, Tryd.ntmps75
    go_wp2_with (at_builtin; refine wpList_append_ent rfl _ _ rfl B _ cap C HO.out rfl ⟨vb, 0, none⟩ 1 1 [x, y] rfl rfl HL.out HOne.out (by omega) hB ?_; intro v' w' h2 h3 h4)
    all_goals
      go_ret
      exact ⟨_, rfl, by rw [HC.out.1, HC.out.2]; exact h2, h3, h4⟩
  · go_enter Tryd.func75, Tryd.ntmps75
    go_wp2_with (at_builtin; refine wpList_append_ent rfl _ _ rfl B _ n C HO.out rfl ⟨vb, 0, none⟩ 1 1 [x, y] rfl rfl HL.out HOne.out (by omega) hB ?_; intro v' w' h2 h3 h4)
    all_goals
      go_ret
      exact ⟨_, rfl, by rw [HC.out.1, HC.out.2]; exact h2, h3, h4⟩

/-- The cells behind two copies in one block. -/
theorem ins_row (L C : List Value) (x y : Value) (i n cap : Nat) (hi : i < n) (h : n + 1 ≤ cap) (hL : L.length = cap * 2) (hC : L.take (n * 2) = C) :
    (((L.take ((i + 1) * 2) ++ C.drop (i * 2) ++ L.drop ((i + 1) * 2 + (C.drop (i * 2)).length)).take (i * 2) ++ [x, y] ++ (L.take ((i + 1) * 2) ++ C.drop (i * 2) ++ L.drop ((i + 1) * 2 + (C.drop (i * 2)).length)).drop (i * 2 + 2)).take ((n + 1) * 2)) = C.take (i * 2) ++ x :: y :: C.drop (i * 2) := by
  have hCl : C.length = n * 2 := by rw [← hC, List.length_take]; omega
  have e1 : (L.take ((i + 1) * 2)).length = i * 2 + 2 := by rw [List.length_take]; omega
  have e2 : (L.take ((i + 1) * 2) ++ C.drop (i * 2) ++ L.drop ((i + 1) * 2 + (C.drop (i * 2)).length)).take (i * 2) = C.take (i * 2) := by
    rw [List.append_assoc, List.take_append_of_le_length (by omega), List.take_take, ← hC, List.take_take]
    congr 1; omega
  have e3 : (L.take ((i + 1) * 2) ++ C.drop (i * 2) ++ L.drop ((i + 1) * 2 + (C.drop (i * 2)).length)).drop (i * 2 + 2) = C.drop (i * 2) ++ L.drop ((i + 1) * 2 + (C.drop (i * 2)).length) := by
    rw [List.append_assoc, List.drop_append_of_le_length (by omega), List.drop_eq_nil_of_le (by omega), List.nil_append]
  rw [e2, e3, ← List.append_assoc, List.take_append_of_le_length (by simp; omega), List.take_of_length_le (by simp; omega)]
  simp
theorem ins_len (L C : List Value) (x y : Value) (i n cap : Nat) (hi : i < n) (h : n + 1 ≤ cap) (hL : L.length = cap * 2) (hCl : C.length = n * 2) :
    (L.take ((i + 1) * 2) ++ C.drop (i * 2) ++ L.drop ((i + 1) * 2 + (C.drop (i * 2)).length)).length = cap * 2 ∧
    ((L.take ((i + 1) * 2) ++ C.drop (i * 2) ++ L.drop ((i + 1) * 2 + (C.drop (i * 2)).length)).take (i * 2) ++ [x, y] ++ (L.take ((i + 1) * 2) ++ C.drop (i * 2) ++ L.drop ((i + 1) * 2 + (C.drop (i * 2)).length)).drop (i * 2 + 2)).length = cap * 2 := by
  have e1 : (L.take ((i + 1) * 2) ++ C.drop (i * 2) ++ L.drop ((i + 1) * 2 + (C.drop (i * 2)).length)).length = cap * 2 := by
    simp only [List.length_append, List.length_take, List.length_drop]; omega
  refine ⟨e1, ?_⟩
  simp only [List.length_append, List.length_take, List.length_drop] at e1 ⊢
  simp; omega

theorem entSize : (Tryd.prog.info? 40).map (·.size) = some 2 := by
  obtain ⟨i0, hi0, hz0, hz1, hz2⟩ := info_parts entInfo
  rw [hi0]; simp [hz1]
theorem cells_of {w : World} {g : Nat} {cur : Array Value} {T : TypeId} (h : w.heap[g]? = some (.cells cur T (0, 0))) (o : Nat) (cs : List Value) (hc : ∀ j, j < cs.length → cur.toList[o + j]? = cs[j]?) : ∀ j u, cs[j]? = some u → w.cell? ((⟨g, o, none⟩ : Addr).add j) = some u := by
  intro j u hj
  have e : (⟨g, o, none⟩ : Addr).add j = ⟨g, o + j, none⟩ := by unfold Addr.add; split <;> simp_all
  have hlt : j < cs.length := by
    rcases Nat.lt_or_ge j cs.length with h | h
    · exact h
    · rw [List.getElem?_eq_none h] at hj; cases hj
  rw [e]
  have := hc j hlt
  rw [hj, Array.getElem?_toList] at this
  simp [World.cell?, h, this]

theorem insert_shift (B : Nat) (g n cap i : Nat) (C : List Value) (x y : Value) (vb : Nat) (w : World) (hown : w.ownsRow B 40 2 (.slice (some ⟨g, 0, none⟩) n cap) n C) (hB : B ≤ w.heap.size) (hn : n ≤ 1000) (hi : i < n) (hroom : n + 1 ≤ cap) (hne : vb ≠ g)
    (hvb : w.heap[vb]? = some (.cells #[x, y] 40 (0, 0))) (hx : x.oneCell' = true) (hy : y.oneCell' = true) (hC : ∀ u ∈ C, u.oneCell' = true) :
    Calls Tryd.prog 75 #[.slice (some ⟨g, 0, none⟩) n cap, .int .i64 i, .slice (some ⟨vb, 0, none⟩) 1 1] w (Inserted B w (.slice (some ⟨g, 0, none⟩) n cap) n i C x y) := by
  have HL := Lib.hid (cell_lit hvb)
  have hl := hown.1
  obtain ⟨hm, hBg, cur, hg, hcs, htk⟩ : cap ≤ maxLen ∧ B ≤ g ∧ ∃ cur : Array Value, w.heap[g]? = some (.cells cur 40 (0, 0)) ∧ cur.size = cap * 2 ∧ cur.toList.take (n * 2) = C := by
    rcases hown.2 with ⟨e, _⟩ | ⟨g', cap', cur, e, h1, h2, h3, h4, h5, h6⟩
    · injection e with e _ _; cases e
    · injection e with e1 _ e; subst e; injection e1 with e1; injection e1 with e1; subst e1; exact ⟨h4, h1, cur, h2, h5, h6⟩
  have hov : ∀ o lb cb, (callFunc 92 #[.slice (some ⟨vb, 0, none⟩) 1 1, .slice (some ⟨g, o, none⟩) lb cb]).run Tryd.prog w = .ok (.value (.bool false)) w := fun o lb cb => by
    rw [run_callFunc_extern Tryd.func92 (by kernel_rfl) (by kernel_rfl) (by kernel_rfl) (e := Extern.SlicesOverlaps.overlaps #[35, 35] #[4]) (by kernel_rfl),
      Lib.run_overlaps_apart w 35 4 40 Tryd.underlying35 2 (by intro w; obtain ⟨i0, hi0, hz0, hz1, hz2⟩ := info_parts entInfo; simp [sizeOf, typeInfo, hi0, hz1]) ⟨vb, 0, none⟩ ⟨g, o, none⟩ 1 1 lb cb hne 40 40 2 (cap * 2) (by simp [World.shape?, hvb]) (by simp [World.shape?, hg, hcs]) (by omega) (by simp [World.frozen?, hvb]) (by simp [World.frozen?, hvb])]
    rfl
  have hdl : (C.drop (i * 2)).length = (n - i) * 2 := by rw [List.length_drop]; omega
  obtain ⟨hR1, hR2⟩ := ins_len cur.toList C x y i n cap hi hroom (by simpa using hcs) hl
  have hFin := ins_row cur.toList C x y i n cap hi hroom (by simpa using hcs) htk
  have hcp1 : ∀ ty dc sc, (Builtin.copy_ #[35, 35] ty #[.slice (some ⟨g, (i + 1) * 2, none⟩) (n + 1 - (i + 1)) dc, .slice (some ⟨g, i * 2, none⟩) (n + 1 - i) sc]).run Tryd.prog w.drew = .ok (goInt (Nat.min (n + 1 - i) (n + 1 - (i + 1)))) (w.drew.setRow g (cur.toList.take ((i + 1) * 2) ++ C.drop (i * 2) ++ cur.toList.drop ((i + 1) * 2 + (C.drop (i * 2)).length)).toArray) := fun ty dc sc =>
    run_copy_rowK w.drew _ _ ty 40 2 g ((i + 1) * 2) (n + 1 - (i + 1)) dc ⟨g, i * 2, none⟩ (n + 1 - i) sc cur 40 (C.drop (i * 2)) Tryd.underlying35 entSize hg (by rw [hdl]; simp only [Nat.min_def]; split <;> omega)
      (cells_of (w := w.drew) hg (i * 2) _ (fun j hj => by rw [← htk, List.getElem?_drop, List.getElem?_take, if_pos (by omega)])) (by rw [hdl]; omega) (fun u hu => hC u (List.mem_of_mem_drop hu))
  generalize cur.toList.take ((i + 1) * 2) ++ C.drop (i * 2) ++ cur.toList.drop ((i + 1) * 2 + (C.drop (i * 2)).length) = R1 at *
  have hg1 : (w.drew.setRow g R1.toArray).heap[g]? = some (.cells R1.toArray 40 (0, 0)) := setRow_heap w.drew g cur _ _ _ hg
  have hv1 : (w.drew.setRow g R1.toArray).heap[vb]? = some (.cells #[x, y] 40 (0, 0)) := by rw [setRow_other _ _ _ _ hne]; exact hvb
  have hcp2 : ∀ ty dc, (Builtin.copy_ #[35, 35] ty #[.slice (some ⟨g, i * 2, none⟩) (n + 1 - i) dc, .slice (some ⟨vb, 0, none⟩) 1 1]).run Tryd.prog (w.drew.setRow g R1.toArray) = .ok (goInt (Nat.min 1 (n + 1 - i))) ((w.drew.setRow g R1.toArray).setRow g (R1.take (i * 2) ++ [x, y] ++ R1.drop (i * 2 + 2)).toArray) := fun ty dc =>
    run_copy_rowK (w.drew.setRow g R1.toArray) _ _ ty 40 2 g (i * 2) (n + 1 - i) dc ⟨vb, 0, none⟩ 1 1 R1.toArray 40 [x, y] Tryd.underlying35 entSize hg1 (by show 2 = Nat.min 1 (n + 1 - i) * 2; simp only [Nat.min_def]; split <;> omega)
      (cell_lit hv1) (by show i * 2 + 2 ≤ R1.toArray.size; simp [hR1]; omega) (fun u hu => by simp at hu; rcases hu with rfl | rfl; exact hx; exact hy)
  generalize R1.take (i * 2) ++ [x, y] ++ R1.drop (i * 2 + 2) = R2 at *
  have hW : Hid (Inserted B w (.slice (some ⟨g, 0, none⟩) n cap) n i C x y (.returned (.slice (some ⟨g, 0, none⟩) (n + 1) cap)) ((w.drew.setRow g R1.toArray).setRow g R2.toArray)) := Lib.hid (by
    refine ⟨_, rfl, ⟨by rw [← hFin, List.length_take]; omega, .inr ⟨g, cap, R2.toArray, rfl, hBg, setRow_heap _ _ _ _ _ _ hg1, hroom, hm, by simp [hR2], by simpa using hFin⟩⟩, ⟨rfl, rfl, rfl, by simp [World.setRow], fun k hk hkn => ?_⟩, fun k hk => .inl hk⟩
    have hkg : k ≠ g := fun e => hkn (by rw [e]; rfl)
    rw [setRow_other _ _ _ _ hkg, setRow_other _ _ _ _ hkg]; rfl)
  unfold maxLen at hm
  have hq : ¬ (cap = i) := by omega
  have hq2 : ¬ (cap = i + 1) := by omega
  have hz2 : ¬ ((i : Int) = (n : Int)) := by omega
  have hz3 : decide ((cap : Int) < (n : Int) + 1) = false := by simp; omega
  have hin : i ≤ n := by omega
  have hw1 : IntKind.i64.wrap ((i : Int) + 1) = (i : Int) + 1 := by rw [IntKind.wrap_i64]; omega
  have hb1 : (0 : Int) ≤ (i : Int) + 1 := by omega
  have htn : ((i : Int) + 1).toNat = i + 1 := by omega
  have hb3 : (i : Int) ≤ (n : Int) + 1 := by omega
  have HC1 := Lib.hid hcp1
  have HC2 := Lib.hid hcp2
  clear hown hvb hg hcs htk hdl hR1 hR2 hFin hg1 hv1 hl hBg hcp1 hcp2
  go_enter Tryd.func75, Tryd.ntmps75
  go_wp2_with (simp only [hov])
  go_region_law (refine step_copy_runK rfl _ _ 35 35 rfl _ _ (by simp [Act.eval, Act.put]; rfl) (by simp [Act.eval, Act.put]; rfl) (HC1.out _ _ _) ?_)
  have hcp2 := HC2.out
  go_wp2_with fail
  go_ret
  exact hW.out

/-- The cells of a new row behind two copies. -/
theorem grow_row (R C : List Value) (x y : Value) (i n G : Nat) (hi : i < n) (h : n + 1 ≤ G) (hR : R.length = G * 2) (hC : R.take (i * 2) = C.take (i * 2)) (hCl : C.length = n * 2) :
    let R1 := R.take (i * 2) ++ [x, y] ++ R.drop (i * 2 + 2)
    R1.length = G * 2 ∧ (R1.take ((i + 1) * 2) ++ C.drop (i * 2) ++ R1.drop ((i + 1) * 2 + (C.drop (i * 2)).length)).length = G * 2 ∧
    (R1.take ((i + 1) * 2) ++ C.drop (i * 2) ++ R1.drop ((i + 1) * 2 + (C.drop (i * 2)).length)).take ((n + 1) * 2) = C.take (i * 2) ++ x :: y :: C.drop (i * 2) := by
  intro R1
  have e0 : R1.length = G * 2 := by simp only [R1, List.length_append, List.length_take, List.length_drop]; simp; omega
  refine ⟨e0, ?_, ?_⟩
  · simp only [List.length_append, List.length_take, List.length_drop]; omega
  · have e1 : R1.take ((i + 1) * 2) = C.take (i * 2) ++ [x, y] := by
      simp only [R1]
      rw [List.take_append_of_le_length (by simp; omega), List.take_of_length_le (by simp; omega), hC]
    rw [e1, List.take_append_of_le_length (by simp; omega), List.take_of_length_le (by simp; omega)]
    simp

theorem insert_grow (B : Nat) (g n cap i : Nat) (C : List Value) (x y : Value) (vb : Nat) (w : World) (hown : w.ownsRow B 40 2 (.slice (some ⟨g, 0, none⟩) n cap) n C) (hB : B ≤ w.heap.size) (hn : n ≤ 1000) (hi : i < n) (hroom : cap < n + 1)
    (hvb : w.heap[vb]? = some (.cells #[x, y] 40 (0, 0))) (hx : x.oneCell' = true) (hy : y.oneCell' = true) (hC : ∀ u ∈ C, u.oneCell' = true) :
    Calls Tryd.prog 75 #[.slice (some ⟨g, 0, none⟩) n cap, .int .i64 i, .slice (some ⟨vb, 0, none⟩) 1 1] w (Inserted B w (.slice (some ⟨g, 0, none⟩) n cap) n i C x y) := by
  have hl := hown.1
  obtain ⟨hnc, cur, hg, hcs, htk⟩ : n ≤ cap ∧ ∃ cur : Array Value, w.heap[g]? = some (.cells cur 40 (0, 0)) ∧ cur.size = cap * 2 ∧ cur.toList.take (n * 2) = C := by
    rcases hown.2 with ⟨e, _⟩ | ⟨g', cap', cur, e, h1, h2, h3, h4, h5, h6⟩
    · injection e with e _ _; cases e
    · injection e with e1 _ e; subst e; injection e1 with e1; injection e1 with e1; subst e1; exact ⟨h3, cur, h2, h5, h6⟩
  have hgl : g < w.heap.size := (Array.getElem?_eq_some_iff.1 hg).1
  have hvl : vb < w.heap.size := (Array.getElem?_eq_some_iff.1 hvb).1
  obtain ⟨i0, hi0, hz0, hz1, hz2⟩ := info_parts entInfo
  have hold : (Builtin.firstCells i0.size i (.slice (some ⟨g, 0, none⟩) i cap)).run Tryd.prog w.drew = .ok (C.take (i * 2)).toArray w.drew := by
    rw [hz1]
    exact run_firstCells_some w.drew 2 i ⟨g, 0, none⟩ i cap (C.take (i * 2)) (by rw [List.length_take]; omega) (cells_of (w := w.drew) hg 0 _ (fun j hj => by
      rw [List.length_take] at hj
      rw [← htk, List.getElem?_take, List.getElem?_take, if_pos (by omega), if_pos (by omega), Nat.zero_add]))
  have hrz : ∀ ty, (Builtin.append_ #[35, 3] ty #[.slice (some ⟨g, 0, none⟩) i cap, .int .i64 ((n : Int) + 1 - (i : Int))]).run Tryd.prog w =
      .ok (.slice (some ⟨w.heap.size, 0, none⟩) (n + 1) (grownCap w (n + 1) cap 40)) (w.drew.alloc (.cells ((C.take (i * 2)).toArray ++ Builtin.zeroCells (Value.agg #[.string ⟨#[]⟩, .slice none 0 0]).cells (n + 1 - i) ++ Builtin.zeroCells (Value.agg #[.string ⟨#[]⟩, .slice none 0 0]).cells (grownCap w (n + 1) cap 40 - (n + 1))) 40)) := fun ty => by
    have h := Lib.run_append_grow_zeros w 35 3 ty 40 i0 _ .i64 .i64 Tryd.underlying35 Tryd.underlying3 hi0 hz0 (some ⟨g, 0, none⟩) i cap (C.take (i * 2)) hold (n + 1 - i) (by omega) (by omega) (by omega) (by omega) (by rw [hz2]; omega) (by rw [hz2, show i + (n + 1 - i) = n + 1 by omega]; exact growslice_fits hroom (by omega))
    rw [show i + (n + 1 - i) = n + 1 by omega] at h
    rw [show (n : Int) + 1 - (i : Int) = ((n + 1 - i : Nat) : Int) by omega]
    exact h
  have hGn := grownCap_ge w (n + 1) cap 40
  have hGm := grownCap_le_maxLen w (n + 1) cap 40 (by unfold maxLen; omega)
  generalize grownCap w (n + 1) cap 40 = G at *
  obtain ⟨ROW, hROW⟩ : ∃ ROW : Array Value, ROW = (C.take (i * 2)).toArray ++ Builtin.zeroCells (Value.agg #[.string ⟨#[]⟩, .slice none 0 0]).cells (n + 1 - i) ++ Builtin.zeroCells (Value.agg #[.string ⟨#[]⟩, .slice none 0 0]).cells (G - (n + 1)) := ⟨_, rfl⟩
  rw [← hROW] at hrz
  have hRs : ROW.size = G * 2 := by
    rw [hROW]
    simp only [Array.size_append, size_zeroCells, List.size_toArray, List.length_take, Value.cells, List.size_toArray, List.length_cons, List.length_nil]
    omega
  have hRt : ROW.toList.take (i * 2) = C.take (i * 2) := by
    rw [hROW, Array.toList_append, Array.toList_append, List.append_assoc, List.take_append_of_le_length (by simp; omega), List.take_of_length_le (by simp; omega)]
  obtain ⟨hR1, hR2, hFin⟩ := grow_row ROW.toList C x y i n G hi hGn (by simpa using hRs) hRt hl
  have hdl : (C.drop (i * 2)).length = (n - i) * 2 := by rw [List.length_drop]; omega
  have hN : (w.drew.alloc (.cells ROW 40)).heap[w.heap.size]? = some (.cells ROW 40 (0, 0)) := heap_alloc_new w.drew _
  have hOld : ∀ k, k < w.heap.size → (w.drew.alloc (.cells ROW 40)).heap[k]? = w.heap[k]? := fun k hk => Below.heap_alloc w.drew _ k hk
  have hcpA : ∀ W : World, W.heap = (w.drew.alloc (.cells ROW 40)).heap → ∀ ty dc, (Builtin.copy_ #[35, 35] ty #[.slice (some ⟨w.heap.size, i * 2, none⟩) (n + 1 - i) dc, .slice (some ⟨vb, 0, none⟩) 1 1]).run Tryd.prog W = .ok (goInt (Nat.min 1 (n + 1 - i))) (W.setRow w.heap.size (ROW.toList.take (i * 2) ++ [x, y] ++ ROW.toList.drop (i * 2 + 2)).toArray) := fun W hW ty dc =>
    run_copy_rowK W _ _ ty 40 2 w.heap.size (i * 2) (n + 1 - i) dc ⟨vb, 0, none⟩ 1 1 ROW 40 [x, y] Tryd.underlying35 entSize (by rw [hW]; exact hN) (by show 2 = Nat.min 1 (n + 1 - i) * 2; simp only [Nat.min_def]; split <;> omega)
      (cell_lit (by rw [hW, hOld _ hvl]; exact hvb)) (by show i * 2 + 2 ≤ ROW.size; omega) (fun u hu => by simp at hu; rcases hu with rfl | rfl; exact hx; exact hy)
  generalize ROW.toList.take (i * 2) ++ [x, y] ++ ROW.toList.drop (i * 2 + 2) = R1 at *
  have hcpB : ∀ W : World, W.heap = ((w.drew.alloc (.cells ROW 40)).setRow w.heap.size R1.toArray).heap → ∀ ty dc sc, (Builtin.copy_ #[35, 35] ty #[.slice (some ⟨w.heap.size, (i + 1) * 2, none⟩) (n + 1 - (i + 1)) dc, .slice (some ⟨g, i * 2, none⟩) (n - i) sc]).run Tryd.prog W = .ok (goInt (Nat.min (n - i) (n + 1 - (i + 1)))) (W.setRow w.heap.size (R1.take ((i + 1) * 2) ++ C.drop (i * 2) ++ R1.drop ((i + 1) * 2 + (C.drop (i * 2)).length)).toArray) := fun W hW ty dc sc =>
    run_copy_rowK W _ _ ty 40 2 w.heap.size ((i + 1) * 2) (n + 1 - (i + 1)) dc ⟨g, i * 2, none⟩ (n - i) sc R1.toArray 40 (C.drop (i * 2)) Tryd.underlying35 entSize (by rw [hW]; exact setRow_heap _ _ _ _ _ _ hN) (by rw [hdl]; simp only [Nat.min_def]; split <;> omega)
      (cells_of (by rw [hW, setRow_other _ _ _ _ (by omega), hOld _ hgl]; exact hg) (i * 2) _ (fun j hj => by rw [← htk, List.getElem?_drop, List.getElem?_take, if_pos (by omega)])) (by simp [hR1]; omega) (fun u hu => hC u (List.mem_of_mem_drop hu))
  generalize R1.take ((i + 1) * 2) ++ C.drop (i * 2) ++ R1.drop ((i + 1) * 2 + (C.drop (i * 2)).length) = R2 at *
  have hW : Hid (Inserted B w (.slice (some ⟨g, 0, none⟩) n cap) n i C x y (.returned (.slice (some ⟨w.heap.size, 0, none⟩) (n + 1) G)) ((((w.alloc (.cells ROW 40)).drew.setRow w.heap.size R1.toArray).drew).setRow w.heap.size R2.toArray)) := Lib.hid (by
    have hg1 : ((w.alloc (.cells ROW 40)).drew.setRow w.heap.size R1.toArray).heap[w.heap.size]? = some (.cells R1.toArray 40 (0, 0)) := setRow_heap _ _ _ _ _ _ hN
    refine ⟨_, rfl, ⟨by rw [← hFin, List.length_take]; omega, .inr ⟨w.heap.size, G, R2.toArray, rfl, hB, setRow_heap _ _ _ _ _ _ hg1, hGn, hGm, by simp [hR2], by simpa using hFin⟩⟩, ⟨rfl, rfl, rfl, by simp [World.setRow, World.drew], fun k hk hkn => ?_⟩, fun k hk => .inr (by simp [Value.ownBlock] at hk; omega)⟩
    have hkg : k ≠ w.heap.size := by omega
    rw [setRow_other _ _ _ _ hkg]
    show ((w.alloc (.cells ROW 40)).drew.setRow w.heap.size R1.toArray).heap[k]? = _
    rw [setRow_other _ _ _ _ hkg]; exact hOld k hk)
  unfold maxLen at hGm
  have hq : ¬ (cap = i) := by omega
  have hq2 : ¬ (G = i + 1) := by omega
  have hq3 : ¬ (G = i) := by omega
  have hz2 : ¬ ((i : Int) = (n : Int)) := by omega
  have hz3 : decide ((cap : Int) < (n : Int) + 1) = true := by simp; omega
  have hin : i ≤ n := by omega
  have hw1 : IntKind.i64.wrap ((i : Int) + 1) = (i : Int) + 1 := by rw [IntKind.wrap_i64]; omega
  have hb1 : (0 : Int) ≤ (i : Int) + 1 := by omega
  have htn : ((i : Int) + 1).toNat = i + 1 := by omega
  have hb3 : (i : Int) ≤ (n : Int) := by omega
  have HCA := Lib.hid hcpA
  have HCB := Lib.hid hcpB
  have HRZ := Lib.hid hrz
  have hA := HCA.out (w.alloc (.cells ROW 40)).drew rfl
  clear hown hvb hg hcs htk hdl hR1 hR2 hFin hl hold hROW hRs hRt hN hOld hz0 hz1 hz2 hi0 hcpA hcpB hrz
  go_enter Tryd.func75, Tryd.ntmps75
  go_wp2_with (at_builtin; refine Lib.wpList_append_run _ rfl _ _ _ _ rfl _ _ rfl rfl _ _ (HRZ.out _) ?_)
  clear hA
  go_region_law (refine step_copy_runK rfl _ _ 35 35 rfl (.slice (some ⟨w.heap.size, (i + 1) * 2, none⟩) (n + 1 - (i + 1)) (G - (i + 1))) (.slice (some ⟨g, i * 2, none⟩) (n - i) (cap - i)) (by simp [Act.eval, Act.put]) (by simp [Act.eval, Act.put]) (HCB.out (((w.alloc (.cells ROW 40)).drew.setRow w.heap.size R1.toArray).drew) rfl 3 (G - (i + 1)) (cap - i)) ?_)
  go_wp2_with fail
  go_ret
  exact hW.out
theorem insert_any (B : Nat) (v : Value) (n i : Nat) (C : List Value) (x y : Value) (vb : Nat) (w : World) (hown : w.ownsRow B 40 2 v n C) (hB : B ≤ w.heap.size) (hn : n ≤ 1000) (hi : i ≤ n) (hne : v.ownBlock ≠ some vb)
    (hvb : w.heap[vb]? = some (.cells #[x, y] 40 (0, 0))) (hx : x.oneCell' = true) (hy : y.oneCell' = true) (hC : ∀ u ∈ C, u.oneCell' = true) :
    Calls Tryd.prog 75 #[v, .int .i64 i, .slice (some ⟨vb, 0, none⟩) 1 1] w (Inserted B w v n i C x y) := by
  by_cases e : i = n
  · subst e
    exact insert_end B v i C x y vb w hown hB hn hvb hx hy
  · rcases hown.2 with ⟨rfl, h0⟩ | ⟨g, cap, cur, rfl, _⟩
    · omega
    · by_cases hr : n + 1 ≤ cap
      · exact insert_shift B g n cap i C x y vb w hown hB hn (by omega) hr (fun e => hne (by rw [e]; rfl)) hvb hx hy hC
      · exact insert_grow B g n cap i C x y vb w hown hB hn (by omega) (by omega) hvb hx hy hC
end Go.Proofs.YtflnbpiegcepcaaDoor

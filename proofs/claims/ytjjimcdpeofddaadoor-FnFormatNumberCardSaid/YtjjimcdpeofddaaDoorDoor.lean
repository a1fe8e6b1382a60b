/- What the package's table of signs holds when a call begins, read off the condition of the row; and that the variables read behind the call as before it. -/
import Derived.Test.YtjjimcdpeofddaaDoorRoman
import Derived.ProofKit
import Derived.OpenShut
import Derived.ChangeOld
import Derived.LaidMore
import Derived.Stop.Joined
import Derived.ChangeVars
import Derived.Lib.LaidU8
import Derived.MakeChecks
namespace Go.Proofs.YtjjimcdpeofddaaDoor
open Go.ChangeShapes Go.WideShapes Go.ChangeAt Go.RowKit

theorem laidOut : laidOutB Tryd.prog = true := by kernel_rfl
theorem varsOk : (List.range Tryd.prog.globals.size).all (fun g => match (Tryd.prog.globals[g]?).map (·.type) with | some t => Tryd.prog.readableRec t && decide (t < Tryd.prog.types.size) | none => true) = true := by kernel_rfl
theorem global_lt {n : String} {g t : Nat} (_h : Tryd.prog.globalNamed n = some g) (h : (Tryd.prog.globals[g]?).map (·.type) = some t) : Tryd.prog.readableRec t = true ∧ t < Tryd.prog.types.size := by
  have hg : g < Tryd.prog.globals.size := by
    rcases Nat.lt_or_ge g Tryd.prog.globals.size with h' | h'
    · exact h'
    · simp [Array.getElem?_eq_none h'] at h
  have := List.all_eq_true.1 varsOk g (List.mem_range.2 hg)
  rw [h] at this
  simpa using this

/-- Behind a call that only makes memory the variables read as before. -/
theorem vars_below {H : Type} {enc : TypeId × Value → H} {W W' : World} (hb : Below W.heap.size W W') : ∀ {ns : List String} {gs : List (DataW H)} {ps : List MemPlace},
    DataW.TrodVars enc Tryd.prog W (fun _ => true) ns gs ps → (∀ p ∈ ps, p.block < W.heap.size) → DataW.TrodVars enc Tryd.prog W' (fun b => decide (b < W.heap.size)) ns gs ps
  | [], [], _, h, _ => h
  | [], _ :: _, _, h, _ => h.elim
  | _ :: _, [], _, h, _ => h.elim
  | n :: ns, d :: gs, ps, h, hlt => by
    obtain ⟨g, t, cs, fuel, p, q, hg, ht, hv, hd, hr, rfl⟩ := h
    obtain ⟨h1, h2⟩ := global_lt hg ht
    refine ⟨g, t, cs, fuel, p, q, hg, ht, ?_, ?_, vars_below hb hr (fun x hx => hlt x (by simp [hx])), rfl⟩
    · have hv' := hv
      simp only [World.var?, hg, Option.bind_some] at hv' ⊢
      have hgl : g < W.heap.size := by
        rcases Nat.lt_or_ge g W.heap.size with h' | h'
        · exact h'
        · simp [Array.getElem?_eq_none h'] at hv'
      rw [hb.block g hgl]
      exact hv'
    · exact DataW.trod_stays (kids_book laidOut h1) (book_sized h1) (fun h => by cases h) ⟨h2, book_self t⟩ hd (fun x hx => hb.same (hlt x (by simp [hx]))) (fun x hx => by simpa using hlt x (by simp [hx]))

theorem gSigns : Tryd.prog.globalNamed (Tryd.prog.globals[0]?.map (·.name)).get! = some 0 := by kernel_rfl
theorem tSigns : (Tryd.prog.globals[0]?).map (·.type) = some 41 := by kernel_rfl
theorem cellsSign : Tryd.prog.cellsOf 40 = 2 := by kernel_rfl
theorem cellsInt : Tryd.prog.cellsOf 3 = 1 := by kernel_rfl
theorem cellsStr : Tryd.prog.cellsOf 9 = 1 := by kernel_rfl
def dat {H : Type} (i : Nat) : DataW H := .agg [.lit (.string (signs.getD i ([], 0)).1), .lit (.int .i64 ((signs.getD i ([], 0)).2 : Int))]
theorem tbl_at (j : Nat) (h : j < 26) : romTbl.toList[j]? = [Value.string (sgn (j / 2)), Value.int .i64 (vlu (j / 2) : Int)][j % 2]? := by
  have hc : j = 0 ∨ j = 1 ∨ j = 2 ∨ j = 3 ∨ j = 4 ∨ j = 5 ∨ j = 6 ∨ j = 7 ∨ j = 8 ∨ j = 9 ∨ j = 10 ∨ j = 11 ∨ j = 12 ∨ j = 13 ∨ j = 14 ∨ j = 15 ∨ j = 16 ∨ j = 17 ∨ j = 18 ∨ j = 19 ∨ j = 20 ∨ j = 21 ∨ j = 22 ∨ j = 23 ∨ j = 24 ∨ j = 25 := by omega
  rcases hc with rfl | rfl | rfl | rfl | rfl | rfl | rfl | rfl | rfl | rfl | rfl | rfl | rfl | rfl | rfl | rfl | rfl | rfl | rfl | rfl | rfl | rfl | rfl | rfl | rfl | rfl <;> rfl
/-- Cells that read as the table are the table's. -/
theorem tbl_of_trod {H : Type} {enc : TypeId × Value → H} {W : World} {sp : Nat → Bool} {held : Bool} {fuel : Nat} {cs : List Value} {p : List MemPlace}
    (h : DataW.trod enc Tryd.prog W 0 sp held fuel 41 cs = some (.agg ((List.range 13).map dat), p)) : cs = romTbl.toList := by
  obtain ⟨xs, m, rfl, hx, hl, hn, hel⟩ := DataW.trod_array Tryd.underlying41 h
  have hc : Tryd.prog.cellsOf 41 = 26 := by kernel_rfl
  rw [hc] at hl
  rw [cellsSign] at hel
  simp only [Prod.mk.injEq, DataW.agg.injEq] at hx
  have key : ∀ i, i < 13 → (cs.drop (i * 2)).take 2 = [Value.string (sgn i), Value.int .i64 (vlu i : Int)] := by
    intro i hi
    have he := hel i hi
    rw [List.getElem?_eq_getElem (by omega)] at he
    have hd : (xs[i]'(by omega)).1 = dat i := by
      have h0 := congrArg (fun l => l[i]?) hx.1
      simp only [List.getElem?_map, List.getElem?_range hi, Option.map_some] at h0
      rw [List.getElem?_eq_getElem (by omega)] at h0
      simpa using h0.symm
    obtain ⟨y0, y1, n, e, hl2, h0, h1⟩ := trod_struct2 Tryd.underlying40 he
    simp only [cellsStr, cellsInt] at h0 h1
    obtain ⟨s, e0, rfl, _⟩ := DataW.trod_string Tryd.underlying9 h0
    obtain ⟨z, e1, rfl, _⟩ := DataW.trod_int Tryd.underlying3 h1
    rw [cellsSign] at hl2
    rw [e] at hd
    simp only [dat, DataW.agg.injEq, List.cons.injEq, DataW.lit.injEq, Lit.string.injEq, Lit.int.injEq, and_true, true_and] at hd
    obtain ⟨hs, hz⟩ := hd
    match hcs : (cs.drop (i * 2)).take 2, hl2 with
    | [a, b], _ =>
      rw [hcs] at e0 e1
      simp at e0 e1
      subst e0 e1 hz
      have : s = sgn i := by
        unfold sgn
        rw [← hs]
      rw [this]
      rfl
  apply List.ext_getElem?
  intro j
  by_cases hj : j < 26
  · rw [tbl_at j hj, ← key (j / 2) (by omega), List.getElem?_take, if_pos (by omega), List.getElem?_drop]
    congr 1
    omega
  · rw [List.getElem?_eq_none (by omega), List.getElem?_eq_none (by rw [show romTbl.toList.length = 26 from rfl]; omega)]

/-- The condition on the listed variables gives the table. -/
theorem laid0_of {l : List (String × DataW Unit)} {n : String} {W : World} (hn : Tryd.prog.globalNamed n = some 0) (hp : (l.all fun x => x.2.handleName?.isNone) = true) (hm : (n, DataW.agg ((List.range 13).map dat)) ∈ l)
    (h : laidMetH Tryd.prog l W) : Laid0 W := by
  rw [MakeChecks.laidMetH_plain _ _ _ hp] at h
  obtain ⟨g, t, cs, f, p, hg, ht, hv, hd⟩ := Lib.laidMet.reads h hm
  obtain rfl := Option.some.inj (hn.symm.trans hg)
  obtain rfl := Option.some.inj (tSigns.symm.trans ht)
  have hcs := tbl_of_trod hd
  simp only [World.var?, hn, Option.bind_some] at hv
  split at hv
  · next c t fr hh =>
    obtain rfl := Option.some.inj hv
    refine ⟨t, fr, ?_⟩
    rw [hh]
    have : c = romTbl := by
      apply Array.toList_inj.1
      exact hcs
    rw [this]
  · cases hv
end Go.Proofs.YtjjimcdpeofddaaDoor

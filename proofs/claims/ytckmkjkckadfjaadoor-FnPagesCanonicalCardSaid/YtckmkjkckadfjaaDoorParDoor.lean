/- What the library's variables hold when a call of a law begins, off the row's condition and the world's shape. -/
import Derived.Test.YtckmkjkckadfjaaDoorParX
import Derived.Test.YtckmkjkckadfjaaDoorItoa
import Derived.Stop.LaidErr
import Derived.Shelf.Vars
import Derived.Handed
namespace Go.Proofs.YtckmkjkckadfjaaDoor
open Go.ChangeShapes Go.WideShapes Go.ChangeAt Go.RowKit
set_option maxHeartbeats 1000000
set_option maxRecDepth 100000
set_option linter.unusedVariables false

theorem star_eq : "*" ++ "errors.errorString" = "*errors.errorString" := by decide
theorem row_err (u : TypeId) (h : Tryd.prog.typeName? 3 u = some "*errors.errorString") : u = 110 :=
  typeName_ptr_named (nm := "errors.errorString") (by rw [star_eq]; kernel_rfl) (by kernel_rfl) (by decide) u (by rw [star_eq]; exact h)
theorem cells_err : Tryd.prog.cellsOf 112 = 1 := by kernel_rfl
theorem cells_str : Tryd.prog.cellsOf 9 = 1 := by kernel_rfl
theorem gRange : Tryd.prog.globalNamed "strconv.ErrRange" = some 5 := by kernel_rfl
theorem gRangeType : (Tryd.prog.globals[5]?).map (·.type) = some 59 := by kernel_rfl
theorem gSyntax : Tryd.prog.globalNamed "strconv.ErrSyntax" = some 4 := by kernel_rfl
theorem gSyntaxType : (Tryd.prog.globals[4]?).map (·.type) = some 59 := by kernel_rfl
theorem lt_of_glob {w : World} {g : Nat} {v : Value} (h : w.cell? ⟨g, 0, none⟩ = some v) : g < w.heap.size := by
  rcases Nat.lt_or_ge g w.heap.size with h' | h'
  · exact h'
  · simp [World.cell?, Array.getElem?_eq_none h'] at h
theorem errV_of {W : World} (h : laidMetH Tryd.prog Rows.fnPagesTextRow.laid W) : ErrV W := by
  rw [MakeChecks.laidMetH_plain _ _ _ (by kernel_rfl)] at h
  have hR := h.tail.tail.tail.tail
  have hS := hR.tail
  obtain ⟨a, _, hv, _, _, _⟩ := laid_sentinel hR gRange gRangeType Tryd.underlying59 row_err Tryd.underlying110 Tryd.underlying112 rfl rfl Tryd.underlying9 cells_err cells_str
  obtain ⟨b, _, hu, _, _, _⟩ := laid_sentinel hS gSyntax gSyntaxType Tryd.underlying59 row_err Tryd.underlying110 Tryd.underlying112 rfl rfl Tryd.underlying9 cells_err cells_str
  have c1 : W.cell? ⟨5, 0, none⟩ = some (.iface 110 (.pointer (some a))) := by simpa using World.var?_cell gRange hv 0
  have c2 : W.cell? ⟨4, 0, none⟩ = some (.iface 110 (.pointer (some b))) := by simpa using World.var?_cell gSyntax hu 0
  exact ⟨⟨_, c2, .inr ⟨_, _, rfl⟩⟩, ⟨_, c1, .inr ⟨_, _, rfl⟩⟩, lt_of_glob c2, lt_of_glob c1⟩
theorem maxL_of {W : World} (h : W.ShapedOpen Tryd.prog) : MaxL W := by
  obtain ⟨m, hm⟩ := Tryd.laysM143.s1_3 W h
  exact ⟨m, hm, lt_of_glob hm⟩
theorem doorV_of {W : World} (hs : W.ShapedOpen Tryd.prog) (h : laidMetH Tryd.prog Rows.fnPagesTextRow.laid W) : DoorV W :=
  ⟨errV_of h, maxL_of hs, pow10_of (by kernel_rfl) (by first | exact List.mem_cons_self .. | exact List.mem_cons_of_mem _ (List.mem_cons_self ..) | exact List.mem_cons_of_mem _ (List.mem_cons_of_mem _ (List.mem_cons_self ..))) h⟩
/-- A law's row out of its contract, where the contract is told the world's shape and one condition more. -/
theorem handed_told {H : Type} {enc : TypeId × Value → H} {a : Assume} {C : Checked} {os : Os} {f : FuncId} {fn : Func} {s : ChangeSpec} {conds : List PathCond} {apart fresh handsOn again : Bool} {X : World → Prop}
    (hX : ∀ w w' : World, w.heap = w'.heap → X w → X w') (own : ownKnob C.prog.godebug = none) (started : os.Started) (noInit : C.prog.inits.idxOf? f = none) (hfn : C.prog.funcs[f]? = some fn)
    (witness : ∃ (w : World) (tape : Tape) (i : Input), w.os = os ∧ (w.forCall tape i).Shaped C.prog ∧ i.vars = [] ∧ Input.okWide C.prog (w.forCall tape i) .any w.heap.size f i ∧
      ((s.pre enc C.prog fn conds apart (w.forCall tape i).memory i.args ∧ X (w.forCall tape i).memory) ∧ sizedMet enc C.prog fn (OpenSpec.ofChange s) apart (w.forCall tape i).memory i.args) ∧ a.holds C.prog (lone (Frame.enter C.prog f i.args .normal) [] (w.forCall tape i)))
    (contract : ∀ (W : World) (base : Nat) (args : Array Value) (ds gs : List (DataW H)) (before : List MemPlace),
      (∀ (j : Nat) t v, fn.params[j]? = some t → args[j]? = some v → Value.okWide C.prog W .any base t v) →
      DataW.Whole enc C.prog fn.params.toList s.vars apart W args.toList ds gs before → W.ShapedOpen C.prog → X W →
      Calls C.prog f args W fun e W' => ∃ v, e = .returned v ∧ s.post enc C.prog fn apart fresh handsOn again W args v W') :
    ReturnsInHanded a C os f .any (fun w args => (s.pre enc C.prog fn conds apart w args ∧ X w) ∧ sizedMet enc C.prog fn (OpenSpec.ofChange s) apart w args) (s.post enc C.prog fn apart fresh handsOn again) := by
  refine returnsInHanded_of_calls own started noInit witness fun w tape i _ hsh _ hok hpre _ => ?_
  obtain ⟨_, _, _, fn', hfn', _, _, _, _, hval⟩ := hok
  obtain rfl : fn' = fn := Option.some.inj (hfn'.symm.trans hfn)
  obtain ⟨⟨⟨ds, gs, before, hw, _⟩, hx⟩, _⟩ := hpre
  refine (contract (w.forCall tape i) w.heap.size i.args ds gs before hval (hw.of_heap (w' := w.forCall tape i) (by rfl)) hsh (hX _ _ (by rfl) hx)).mono fun e W' ⟨v, he, hp⟩ => ?_
  subst he
  exact ChangeSpec.post_blind hp
end Go.Proofs.YtckmkjkckadfjaaDoor

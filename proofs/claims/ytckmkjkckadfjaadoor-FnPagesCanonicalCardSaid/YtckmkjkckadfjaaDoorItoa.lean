/- The library's Itoa at numbers that are not negative; the table that it reads, off the row's condition; that the variables read behind the call as before it. -/
import Derived.Test.YtckmkjkckadfjaaDoorRows
import Derived.Test.YtckmkjkckadfjaaDoorDecimal
import Derived.Test.YtckmkjkckadfjaaDoorShelf
import Derived.ProofKit
import Derived.OpenShut
import Derived.ChangeOld
import Derived.LaidMore
import Derived.Stop.Joined
import Derived.ChangeVars
import Derived.Lib.LaidU8
import Derived.MakeChecks
import Derived.Lib.AppendIntMem
import Derived.Shelf.Strconv.Itoa3
namespace Go.Proofs.YtckmkjkckadfjaaDoor
open Go.ChangeShapes Go.WideShapes Go.ChangeAt Go.RowKit
set_option maxHeartbeats 1000000
set_option maxRecDepth 100000

theorem laidOut : laidOutB Tryd.prog = true := by kernel_rfl
theorem varsOk : (List.range Tryd.prog.globals.size).all (fun g => match (Tryd.prog.globals[g]?).map (·.type) with | some t => Tryd.prog.readableRec t && decide (t < Tryd.prog.types.size) | none => true) = true := by kernel_rfl
theorem global_lt {n : String} {g t : Nat} (_h : Tryd.prog.globalNamed n = some g) (h : (Tryd.prog.globals[g]?).map (·.type) = some t) : Tryd.prog.readableRec t = true ∧ t < Tryd.prog.types.size := by
  have hg : g < Tryd.prog.globals.size := by
    rcases Nat.lt_or_ge g Tryd.prog.globals.size with h' | h'
    · exact h'
    · simp [Array.getElem?_eq_none h'] at h
  have := List.all_eq_true.1 varsOk g (List.mem_range.2 hg)
  rw [h] at this
  simpa using this

/-- Behind a call that only makes memory the variables read as before. -/
theorem vars_below {H : Type} {enc : TypeId × Value → H} {W W' : World} (hb : Below W.heap.size W W') : ∀ {ns : List String} {gs : List (DataW H)} {ps : List MemPlace},
    DataW.TrodVars enc Tryd.prog W (fun _ => true) ns gs ps → (∀ p ∈ ps, p.block < W.heap.size) → DataW.TrodVars enc Tryd.prog W' (fun b => decide (b < W.heap.size)) ns gs ps
  | [], [], _, h, _ => h
  | [], _ :: _, _, h, _ => h.elim
  | _ :: _, [], _, h, _ => h.elim
  | n :: ns, d :: gs, ps, h, hlt => by
    obtain ⟨g, t, cs, fuel, p, q, hg, ht, hv, hd, hr, rfl⟩ := h
    obtain ⟨h1, h2⟩ := global_lt hg ht
    refine ⟨g, t, cs, fuel, p, q, hg, ht, ?_, ?_, vars_below hb hr (fun x hx => hlt x (by simp [hx])), rfl⟩
    · have hv' := hv
      simp only [World.var?, hg, Option.bind_some] at hv' ⊢
      have hgl : g < W.heap.size := by
        rcases Nat.lt_or_ge g W.heap.size with h' | h'
        · exact h'
        · simp [Array.getElem?_eq_none h'] at hv'
      rw [hb.block g hgl]
      exact hv'
    · exact DataW.trod_stays (kids_book laidOut h1) (book_sized h1) (fun h => by cases h) ⟨h2, book_self t⟩ hd (fun x hx => hb.same (hlt x (by simp [hx]))) (fun x hx => by simpa using hlt x (by simp [hx]))

/-- The library's table of powers of ten is laid. -/
def Pow10 (w : World) : Prop := Lib.TabIs Tryd.prog w ((Tryd.prog.globals[1]?).map (·.name)).get! .u64 Lib.pow10Tab
theorem Pow10.below {w w' : World} (h : Pow10 w) (hb : Below w.heap.size w w') : Pow10 w' := Lib.tabBelow_of_tabIs h w' hb
theorem pow10_eq : (Rows.laid_internal_strconv_uint64pow10 : DataW Unit) = Lib.tabData .u64 Lib.pow10Tab := by kernel_rfl
theorem pow10Global : Tryd.prog.globalNamed ((Tryd.prog.globals[1]?).map (·.name)).get! = some 1 := by kernel_rfl
theorem pow10Type : (Tryd.prog.globals[1]?).map (·.type) = some 91 := by kernel_rfl
/-- The condition on the listed variables gives the table of powers. -/
theorem pow10_of {l : List (String × DataW Unit)} {W : World} (hp : (l.all fun x => x.2.handleName?.isNone) = true) (hm : (((Tryd.prog.globals[1]?).map (·.name)).get!, (Rows.laid_internal_strconv_uint64pow10 : DataW Unit)) ∈ l)
    (h : laidMetH Tryd.prog l W) : Pow10 W := by
  rw [MakeChecks.laidMetH_plain _ _ _ hp] at h
  rw [pow10_eq] at hm
  obtain ⟨g, t, cs, f, p, hg, ht, hv, hd⟩ := Lib.laidMet.reads h hm
  obtain rfl := Option.some.inj (pow10Global.symm.trans hg)
  obtain rfl := Option.some.inj (pow10Type.symm.trans ht)
  unfold Pow10 Lib.TabIs
  rw [hv, ← Lib.cells_of_tab Tryd.underlying91 Tryd.underlying74 (by kernel_rfl) (by kernel_rfl) hd]
theorem itoa_any (n : Nat) (hn : n ≤ 1000000000) (w : World) (hT : Pow10 w) :
    Calls Tryd.prog 19 #[.int .i64 n] w fun e w' => e = .returned (.string ⟨(Lib.decDigits n).toArray⟩) ∧ Below w.heap.size w w' := by
  refine (Any.strconv_Itoa Tryd.laysM171 (n : Int) (by omega) (by omega) w hT).mono ?_
  rintro e w' ⟨rfl, k, os, rfl⟩
  refine ⟨by rw [Lib.itoa_nonneg], ?_⟩
  refine ⟨rfl, rfl, rfl, by simp, fun i hi => ?_⟩
  show (w.heap ++ os)[i]? = w.heap[i]?
  rw [Array.getElem?_append_left hi]

end Go.Proofs.YtckmkjkckadfjaaDoor

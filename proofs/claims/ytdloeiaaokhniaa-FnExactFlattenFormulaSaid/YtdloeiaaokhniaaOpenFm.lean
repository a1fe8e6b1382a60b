/- A formula that came in, opened to its kids. -/
import Derived.Test.YtdloeiaaokhniaaFmMem
import Derived.Deep.Slices
import Derived.Deep.Fields
import Derived.ChangeSame
import Derived.ChangeArms
namespace Go.Proofs.Ytdloeiaaokhniaa
open Go.ChangeShapes Go.WideShapes Go.Deep
open FL
set_option maxRecDepth 100000
set_option linter.unusedVariables false

theorem laidOut : laidOutB Try.prog = true := by kernel_rfl
theorem fmCells : Try.prog.cellsOf 26 = 5 := by kernel_rfl
theorem bxCells : Try.prog.cellsOf 23 = 3 := by kernel_rfl
theorem inCells : Try.prog.cellsOf 3 = 1 := by kernel_rfl
theorem slCells : Try.prog.cellsOf 24 = 1 := by kernel_rfl

theorem fm_trod {H : Type} {enc : TypeId × Value → H} {W : World} {base : Nat} : ∀ (fuel : Nat) (cs : List Value) (x : DataW H × List MemPlace),
    DataW.trod enc Try.prog W base (fun _ => true) true fuel 26 cs = some x → ∃ k a b c u g, cs = [.int .i64 k, .int .i64 a, .int .i64 b, .int .i64 c, u] ∧ Kids AllS W u g := by
  intro fuel
  induction fuel using Nat.strongRecOn with
  | ind fuel ih =>
    intro cs x h
    obtain ⟨xs, n, rfl, _, hl, hxl, hf⟩ := DataW.trod_struct Try.underlying26 h
    rw [fmCells] at hl
    match cs, hl with
    | [c0, c1, c2, c3, c4], _ =>
      have t0 := hf 0 _ rfl
      have t1 := hf 1 _ rfl
      have t2 := hf 2 _ rfl
      change DataW.trod enc Try.prog W base (fun _ => true) true n 3 (([c0, c1, c2, c3, c4].drop 0).take (Try.prog.cellsOf 3)) = _ at t0
      change DataW.trod enc Try.prog W base (fun _ => true) true n 23 (([c0, c1, c2, c3, c4].drop 1).take (Try.prog.cellsOf 23)) = _ at t1
      change DataW.trod enc Try.prog W base (fun _ => true) true n 24 (([c0, c1, c2, c3, c4].drop 4).take (Try.prog.cellsOf 24)) = _ at t2
      rw [inCells] at t0
      rw [bxCells] at t1
      rw [slCells] at t2
      have hxl3 : xs.length = 3 := hxl
      rw [List.getElem?_eq_getElem (by omega)] at t0 t1 t2
      change DataW.trod enc Try.prog W base (fun _ => true) true n 3 [c0] = _ at t0
      change DataW.trod enc Try.prog W base (fun _ => true) true n 23 [c1, c2, c3] = _ at t1
      change DataW.trod enc Try.prog W base (fun _ => true) true n 24 [c4] = _ at t2
      obtain ⟨k, e0, _, _⟩ := DataW.trod_int Try.underlying3 t0
      obtain ⟨ys, m, rfl, _, _, hyl, hg⟩ := DataW.trod_struct Try.underlying23 t1
      have s0 := hg 0 _ rfl
      have s1 := hg 1 _ rfl
      have s2 := hg 2 _ rfl
      change DataW.trod enc Try.prog W base (fun _ => true) true m 3 (([c1, c2, c3].drop 0).take (Try.prog.cellsOf 3)) = _ at s0
      change DataW.trod enc Try.prog W base (fun _ => true) true m 3 (([c1, c2, c3].drop 1).take (Try.prog.cellsOf 3)) = _ at s1
      change DataW.trod enc Try.prog W base (fun _ => true) true m 3 (([c1, c2, c3].drop 2).take (Try.prog.cellsOf 3)) = _ at s2
      rw [inCells] at s0 s1 s2
      have hyl3 : ys.length = 3 := hyl
      rw [List.getElem?_eq_getElem (by omega)] at s0 s1 s2
      obtain ⟨a, e1, _, _⟩ := DataW.trod_int Try.underlying3 (show DataW.trod enc Try.prog W base (fun _ => true) true m 3 [c1] = _ from s0)
      obtain ⟨b, e2, _, _⟩ := DataW.trod_int Try.underlying3 (show DataW.trod enc Try.prog W base (fun _ => true) true m 3 [c2] = _ from s1)
      obtain ⟨c, e3, _, _⟩ := DataW.trod_int Try.underlying3 (show DataW.trod enc Try.prog W base (fun _ => true) true m 3 [c3] = _ from s2)
      injection e0 with e0
      injection e1 with e1
      injection e2 with e2
      injection e3 with e3
      subst e0 e1 e2 e3
      rcases DataW.trod_slice Try.underlying24 t2 with ⟨h4, _⟩ | ⟨ad, len, cap, elems, rest, q, hq, h4, _, _, h5, h6, h7, h8, _⟩
      · injection h4 with h4
        subst h4
        exact ⟨k, a, b, c, _, FL.nil, rfl, Kids.nil⟩
      · injection h4 with h4
        subst h4
        rw [fmCells] at h8
        have key : ∀ i, i < len → ∃ k a b c u g, Kids AllS W u g ∧ W.cell? (ad.add (i * 5 + 0)) = some (.int .i64 k) ∧ W.cell? (ad.add (i * 5 + 1)) = some (.int .i64 a) ∧ W.cell? (ad.add (i * 5 + 2)) = some (.int .i64 b) ∧ W.cell? (ad.add (i * 5 + 3)) = some (.int .i64 c) ∧ W.cell? (ad.add (i * 5 + 4)) = some u := by
          intro i hi
          have h9 := h8 i hi
          rw [List.getElem?_eq_getElem (by omega)] at h9
          obtain ⟨cs', g1, g2⟩ := Option.bind_eq_some_iff.1 h9
          obtain ⟨k, a, b, c, u, g, rfl, hk⟩ := ih q (by omega) cs' _ g2
          obtain ⟨_, _, hat⟩ := World.cells?_some g1
          refine ⟨k, a, b, c, u, g, hk, ?_, ?_, ?_, ?_, ?_⟩
          · rw [← Go.Deep.add_add]; exact hat 0 (by omega)
          · rw [← Go.Deep.add_add]; exact hat 1 (by omega)
          · rw [← Go.Deep.add_add]; exact hat 2 (by omega)
          · rw [← Go.Deep.add_add]; exact hat 3 (by omega)
          · rw [← Go.Deep.add_add]; exact hat 4 (by omega)
        by_cases h0 : len = 0
        · subst h0
          exact ⟨k, a, b, c, _, FL.nil, rfl, [], ⟨some ad, cap, rfl, h5, h6, .inl rfl⟩, rfl⟩
        · obtain ⟨bb, off, spot⟩ := ad
          have hspot : spot = none := by
            obtain ⟨_, _, _, _, _, _, _, hh, _⟩ := key 0 (by omega)
            simpa [Addr.add] using World.cell?_spot hh
          subst hspot
          have all : ∀ m, m ≤ len → ∃ g C, g.len = m ∧ InL AllS W g C ∧ ∀ j, j < m * 5 → W.cell? ⟨bb, off + j, none⟩ = C[j]? := by
            intro m
            induction m with
            | zero => intro _; exact ⟨FL.nil, [], rfl, rfl, fun j hj => by omega⟩
            | succ m ihm =>
              intro hm
              obtain ⟨g, C, g1, g2, g3⟩ := ihm (by omega)
              obtain ⟨k, a, b, c, u, f, hk, w0, w1, w2, w3, w4⟩ := key m (by omega)
              have hCl := g2.len
              refine ⟨g.app (cons k a b c f nil), C ++ [.int .i64 k, .int .i64 a, .int .i64 b, .int .i64 c, u], by rw [len_app, g1]; rfl, g2.app (InL.one hk), fun j hj => ?_⟩
              by_cases hjm : j < m * 5
              · rw [List.getElem?_append_left (by omega)]; exact g3 j hjm
              · rw [List.getElem?_append_right (by omega), hCl, g1]
                rw [Go.WideShapes.add_plain] at w0 w1 w2 w3 w4
                rcases (show j = m * 5 + 0 ∨ j = m * 5 + 1 ∨ j = m * 5 + 2 ∨ j = m * 5 + 3 ∨ j = m * 5 + 4 by omega) with rfl | rfl | rfl | rfl | rfl
                · rw [w0, Nat.add_sub_cancel_left]; rfl
                · rw [w1, Nat.add_sub_cancel_left]; rfl
                · rw [w2, Nat.add_sub_cancel_left]; rfl
                · rw [w3, Nat.add_sub_cancel_left]; rfl
                · rw [w4, Nat.add_sub_cancel_left]; rfl
          obtain ⟨g, C, g1, g2, g3⟩ := all len (Nat.le_refl _)
          refine ⟨k, a, b, c, _, g, rfl, C, ⟨_, cap, by rw [g1], by omega, h6, .inr ⟨bb, off, rfl, trivial, ?_, fun j hj => g3 j (by omega)⟩⟩, g2⟩
          obtain ⟨_, _, _, _, _, _, _, hh, _⟩ := key 0 (by omega)
          rw [Go.WideShapes.add_plain] at hh
          exact lt_of_cell hh
/-- What a formula that came in is. -/
structure FmX where
  k : Int
  a : Int
  b : Int
  c : Int
  u : Value
  g : FL
def FmIn (W : World) (v : Value) (X : FmX) : Prop := v = fmV X.k X.a X.b X.c X.u ∧ Kids AllS W X.u X.g
theorem fm_open {H : Type} {enc : TypeId × Value → H} {W : World} {base : Nat} {v : Value} {d : DataW H} {p : List MemPlace}
    (h : DataW.Trod enc Try.prog W base (fun _ => true) true 26 v d p) : ∃ X, FmIn W v X := by
  obtain ⟨fuel, hf⟩ := h
  obtain ⟨k, a, b, c, u, g, e, hk⟩ := fm_trod fuel _ _ hf
  refine ⟨⟨k, a, b, c, u, g⟩, ?_, hk⟩
  cases v <;> simp [Value.cells] at e
  rename_i cs
  obtain ⟨cs⟩ := cs
  simp at e
  subst e
  rfl
end Go.Proofs.Ytdloeiaaokhniaa

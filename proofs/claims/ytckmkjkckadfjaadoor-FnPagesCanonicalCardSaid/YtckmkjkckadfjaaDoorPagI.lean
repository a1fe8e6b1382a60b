/- The program's text of pages. -/
import Derived.Test.YtckmkjkckadfjaaDoorPagS
import Derived.Test.YtckmkjkckadfjaaDoorItoa
import Derived.Test.YtckmkjkckadfjaaDoorShelf
import Derived.Test.YtckmkjkckadfjaaDoorAppStr
import Derived.Deep.AppendLies
import Derived.Deep.RegionLaw
import Derived.Lib.Join
namespace Go.Proofs.YtckmkjkckadfjaaDoor
open Go.RowKit
set_option maxHeartbeats 4000000
set_option maxRecDepth 100000
set_option linter.unusedVariables false

theorem bel_drewN {B : Nat} {a w : World} (h : Below B a w) (n : Nat) : Below B a (w.drewN n) := ⟨h.os, h.tape, h.output, h.size, h.block⟩
/-- The strings' bytes. -/
def bsS (X : List ByteArray) : List Bs := X.map (·.data.toList)
theorem jn_join (P : List Bs) : Lib.join P sepB = jn P := by
  cases P with
  | nil => rfl
  | cons x r =>
    rw [Lib.join_cons]
    show x ++ (r.map (sepB ++ ·)).flatten = x ++ r.flatMap (fun y => sepB ++ y)
    rw [List.flatMap_def]
theorem pe_ok {L : List Int} (h : okPg L = true) {i : Nat} (hi : i < L.length) : 0 ≤ pe L i ∧ pe L i ≤ 3999 := by
  have := (okPg_at h).2 i hi
  unfold okAt at this
  exact ⟨by omega, this.2.1⟩
theorem dg_le (n : Int) (h : n ≤ 1000000000) : (dg n).length ≤ 21 := dg_len h
theorem ptF_len {L : List Int} (h : okPg L = true) : ∀ (f i : Nat), (∀ x ∈ ptF L f i, x.length ≤ 50) ∧ (ptF L f i).length ≤ L.length - i
  | 0, i => ⟨fun x hx => by simp [ptF] at hx, by simp [ptF]⟩
  | f + 1, i => by
    rw [ptF]
    by_cases hi : i < L.length
    · have h1 := dg_le (pe L i) (by have := (pe_ok h hi).2; omega)
      have h2 := dg_le (pe L (re L i)) (by have := (pe_ok h (re_lt hi)).2; omega)
      rw [if_pos hi]
      by_cases hr : i + 2 ≤ re L i
      · rw [if_pos hr]
        obtain ⟨a, b⟩ := ptF_len h f (re L i + 1)
        have := re_lt hi
        refine ⟨fun x hx => ?_, by rw [List.length_cons]; omega⟩
        rcases List.mem_cons.1 hx with rfl | hx
        · simp; omega
        · exact a x hx
      · rw [if_neg hr]
        obtain ⟨a, b⟩ := ptF_len h f (i + 1)
        refine ⟨fun x hx => ?_, by rw [List.length_cons]; omega⟩
        rcases List.mem_cons.1 hx with rfl | hx
        · omega
        · exact a x hx
    · rw [if_neg hi]; exact ⟨fun x hx => by simp at hx, by simp⟩
theorem flat_len (P : List Bs) (h : ∀ x ∈ P, x.length ≤ 50) : (P.flatMap (fun y => sepB ++ y)).length ≤ P.length * 52 := by
  induction P with
  | nil => simp
  | cons x r ih =>
    have h1 := h x (by simp)
    have h2 := ih (fun y hy => h y (by simp [hy]))
    rw [List.flatMap_cons, List.length_append, List.length_append, List.length_cons, Nat.succ_mul]
    have : sepB.length = 2 := rfl
    omega
theorem txt_len {L : List Int} (h : okPg L = true) : (txt L).length ≤ 3000 := by
  obtain ⟨a, b⟩ := ptF_len h (L.length - 0) 0
  have h40 := (okPg_at h).1
  unfold txt pts
  revert a b
  generalize ptF L (L.length - 0) 0 = P
  intro a b
  cases P with
  | nil => simp [jn]
  | cons x r =>
    have h1 := a x (by simp)
    have h2 := flat_len r (fun y hy => a y (by simp [hy]))
    rw [List.length_cons] at b
    unfold jn
    rw [List.length_append]
    omega
theorem itoa_dg (n : Int) (w : World) (h0 : 0 ≤ n) (h1 : n ≤ 1000000000) (hT : Pow10 w) :
    Calls Tryd.prog 19 #[.int .i64 n] w fun e w' => e = .returned (.string ⟨(dg n).toArray⟩) ∧ Below w.heap.size w w' := by
  obtain ⟨m, rfl⟩ : ∃ m : Nat, n = m := ⟨n.toNat, by omega⟩
  exact itoa_any m (by omega) w hT
/-- The parts so far, in a row of the call's own. -/
def Parts (L : List Int) (w0 : Nat) (W : World) (v : Value) (j : Nat) : Prop := ∃ X : List ByteArray, X.length ≤ j ∧ bsS X ++ pts L j = pts L 0 ∧ W.ownsRow w0 9 1 v X.length (X.map Value.string)

theorem formatPages_any (v : Value) (L : List Int) (w : World) (h : SlI w v L) (hT : Pow10 w) :
    Calls Tryd.prog 7 #[v] w fun e w' => e = .returned (.string (fmtP L)) ∧ Below w.heap.size w w' := by
  have HV := Lib.hid (validPages_any v L w h)
  have HU := Lib.hid h
  obtain ⟨a, cap, rfl, h1, h2, _⟩ := h
  unfold maxLen at h2
  cases hb : okPg L with
  | false =>
    have hG : fmtP L = ⟨#[]⟩ := by unfold fmtP; rw [hb]; rfl
    rw [hG]
    rw [hb] at HV
    clear hG
    go_enter Tryd.func7, Tryd.ntmps7
    go_wp2_with fail
    refine HV.out.mono ?_
    rintro e w1 ⟨rfl, rfl⟩
    go_wp2_with fail
    go_ret
    exact ⟨rfl, Below.refl _ _⟩
  | true =>
    have hG : fmtP L = ⟨(txt L).toArray⟩ := by unfold fmtP; rw [hb]; rfl
    rw [hG]
    rw [hb] at HV
    have h40 := (okPg_at hb).1
    have HPow : Hid (∀ w', Below w.heap.size w w' → Pow10 w') := Lib.hid (fun w' b => hT.below b)
    have HP : Hid (∀ i, pe L i = L.getD i 0) := Lib.hid (fun _ => rfl)
    have HB := Lib.hid (fun i (hi : i < L.length) => pe_ok hb hi)
    have HTl := Lib.hid (txt_len hb)
    have HLt := Lib.hid (fun i (h : i < L.length) => re_lt h)
    have HStep := Lib.hid (fun i (h : nx L i) => re_step h)
    have HStop := Lib.hid (fun i (h : ¬ nx L i) => re_stop h)
    have HNx : Hid (∀ i, nx L i ↔ i + 1 < L.length ∧ pe L (i + 1) = pe L i + 1) := Lib.hid (fun _ => Iff.rfl)
    have HRun := Lib.hid (fun i (h : i < L.length) => pts_run h)
    have HOne := Lib.hid (fun i (h : i < L.length) => pts_one h)
    have HEnd : Hid (pts L L.length = []) := Lib.hid (pts_end (Nat.le_refl _))
    clear hG hb hT
    obtain ⟨n, hn⟩ : ∃ n, L.length = n := ⟨_, rfl⟩
    rw [hn] at HU HB HLt HNx HRun HOne HEnd h40 h1 HV ⊢
    clear hn
    go_enter Tryd.func7, Tryd.ntmps7
    go_wp2_with fail
    refine HV.out.mono ?_
    rintro e w0 ⟨rfl, rfl⟩
    clear HV
    go_wp2_with fail
    go_loopw [3, 4] (fun p i wr => ∃ (j : Nat) (vv : Value), j ≤ n ∧ i = .int .i64 j ∧ vv = p ∧ Hid (Parts L w0.heap.size wr vv j) ∧ Hid (Below w0.heap.size w0 wr)) (fun _ i _ => n - (intOf i).toNat)
    case atStart => exact ⟨0, _, by omega, rfl, rfl, Lib.hid ⟨[], by simp, rfl, World.ownsRow_nil _ _ _ _⟩, Lib.hid (Below.refl _ _)⟩
    case round =>
      obtain ⟨j, vv, hj, rfl, rfl, HPt, HBw⟩ := hrel
      generalize wr = W at *
      by_cases hlt : j < n
      · have hj1 : IntKind.i64.wrap ((j : Int) + 1) = ((j : Int) + 1) := IntWalk.i64_in _ (by omega)
        go_wp2_with fail
        go_loopw [5] (fun k wr => ∃ t : Nat, j ≤ t ∧ t < n ∧ k = .int .i64 ((t : Int) + 1) ∧ Hid (re L t = re L j) ∧ ∃ q, Hid (wr = W.drewN q)) (fun k _ => n + 1 - (intOf k).toNat)
        case atStart => exact ⟨j, Nat.le_refl _, hlt, rfl, Lib.hid rfl, 0, Lib.hid rfl⟩
        case round =>
          obtain ⟨t, hjt, htn, rfl, HR, q, HQ⟩ := hrel
          have hU : SlI wr (.slice a n cap) L := by rw [HQ.out]; exact (HU.out.below HBw.out).drewN q
          obtain ⟨b, off, rfl, hbl, h4⟩ := hU.cells (by omega)
          obtain ⟨m, hm⟩ : ∃ m, t + 1 = m := ⟨_, rfl⟩
          have t2 : (t : Int) + 1 = (m : Int) := by omega
          rw [t2]
          have t3 : IntKind.i64.wrap ((m : Int) - 1) = (t : Int) := by rw [IntWalk.i64_in _ (by omega)]; omega
          have t4 : (m : Int) - 1 = (t : Int) := by omega
          have c1 := h4 t htn
          rw [← HP.out] at c1
          have hb1 := HB.out t htn
          have w1 : IntKind.i64.wrap (pe L t + 1) = pe L t + 1 := IntWalk.i64_in _ (by omega)
          have HCell : Hid (∀ i, i < n → wr.cell? ⟨b, off + i, none⟩ = some (.int .i64 (pe L i))) := Lib.hid h4
          have HM := Lib.hid hm
          clear t2
          by_cases hin : m < n
          · have c2 := HCell.out m hin
            by_cases hnx : pe L m = pe L t + 1
            · have HR2 : Hid (re L m = re L j) := Lib.hid (by subst hm; rw [← HStep.out t ((HNx.out t).2 ⟨hin, hnx⟩)]; exact HR.out)
              have he : (pe L m == pe L t + 1) = true := by simpa using hnx
              clear h4 hU hnx hb1 hm
              generalize pe L m = x at *
              generalize pe L t = y at *
              go_wp2_with fail
              go_quiet (fail)
              go_wp2_with fail
              go_roundw
              case rel => exact ⟨m, by have := HM.out; omega, by omega, by first | rfl | go_num, HR2, q + nq, Lib.hid (by rw [HQ.out, World.drewN_drewN])⟩
              case measure => have := HM.out; simp [intOf]; omega
            · have HT : Hid (t = re L j) := Lib.hid (by subst hm; rw [← HR.out, HStop.out t (fun h => hnx ((HNx.out t).1 h).2)])
              have he : (pe L m == pe L t + 1) = false := by simpa using hnx
              clear h4 hU hnx hb1 hm
              generalize pe L m = x at *
              generalize pe L t = y at *
              go_wp2_with fail
              go_quiet (fail)
              have HB3 : Hid (Below w0.heap.size w0 (wr.drewN nq)) := Lib.hid (by rw [HQ.out]; exact bel_drewN (bel_drewN HBw.out q) nq)
              have HPt3 : Hid (Parts L w0.heap.size (wr.drewN nq) vv j) := Lib.hid (by rw [HQ.out]; exact HPt.out)
              have HCell3 : Hid (∀ i, i < n → (wr.drewN nq).cell? ⟨b, off + i, none⟩ = some (.int .i64 (pe L i))) := Lib.hid HCell.out
              have hbl3 : b < (wr.drewN nq).heap.size := hbl
              generalize wr.drewN nq = W3 at *
              have hm2 := HM.out
              have hlo3 : w0.heap.size ≤ W3.heap.size := HB3.out.size
              have HIx : Hid (∀ w', Below W3.heap.size W3 w' → Calls Tryd.prog 19 #[.int .i64 (pe L j)] w' fun e w'' => e = .returned (.string ⟨(dg (pe L j)).toArray⟩) ∧ Below w'.heap.size w' w'') := Lib.hid (fun w' hb => itoa_dg (pe L j) w' (HB.out j hlt).1 (by have := (HB.out j hlt).2; omega) (HPow.out w' (HB3.out.trans (hb.mono hlo3))))
              have HIy : Hid (∀ w', Below W3.heap.size W3 w' → Calls Tryd.prog 19 #[.int .i64 (pe L t)] w' fun e w'' => e = .returned (.string ⟨(dg (pe L t)).toArray⟩) ∧ Below w'.heap.size w' w'') := Lib.hid (fun w' hb => itoa_dg (pe L t) w' (HB.out t htn).1 (by have := (HB.out t htn).2; omega) (HPow.out w' (HB3.out.trans (hb.mono hlo3))))
              have hdx : (⟨(dg (pe L j)).toArray⟩ : ByteArray).size ≤ 21 := decS_size (by have := (HB.out j hlt).2; omega)
              have hdy : (⟨(dg (pe L t)).toArray⟩ : ByteArray).size ≤ 21 := decS_size (by have := (HB.out t htn).2; omega)
              have HDx : Hid ((⟨(dg (pe L j)).toArray⟩ : ByteArray).data.toList = dg (pe L j)) := Lib.hid (by simp)
              have HDy : Hid ((⟨(dg (pe L t)).toArray⟩ : ByteArray).data.toList = dg (pe L t)) := Lib.hid (by simp)
              obtain ⟨X, hXl, hXp, hXo⟩ := HPt3.out
              have HXp := Lib.hid hXp
              have HOwn : Hid (∀ w', Below W3.heap.size W3 w' → w'.ownsRow w0.heap.size 9 1 vv X.length (X.map Value.string)) := Lib.hid (fun w' hb => ((ownC_of hXo).below hb).row)
              have c0 := HCell3.out j hlt
              have ct := HCell3.out t htn
              clear HQ HCell HBw HPt hbl c1 HStep HStop HNx HR HPt3 hXp hXo HCell3
              generalize (⟨(dg (pe L j)).toArray⟩ : ByteArray) = dx at *
              generalize (⟨(dg (pe L t)).toArray⟩ : ByteArray) = dy at *
              by_cases h3 : j + 2 ≤ t
              · have hd3 : decide ((3 : Int) ≤ (m : Int) - (j : Int)) = true := decide_eq_true (by omega)
                have hmj : IntKind.i64.wrap ((m : Int) - (j : Int)) = (m : Int) - (j : Int) := IntWalk.i64_in _ (by omega)
                have HNew : Hid (pts L j = (dg (pe L j) ++ [45] ++ dg (pe L t)) :: pts L m) := Lib.hid (by
                  have h1 := HRun.out j hlt (by rw [← HT.out]; exact h3)
                  rw [← HT.out] at h1
                  rw [h1, ← hm2])
                clear HRun HOne HEnd hm2
                generalize pe L j = x at *
                generalize pe L t = y at *
                have t5 : IntKind.i64.wrap (t : Int) = (t : Int) := IntWalk.i64_in _ (by omega)
                have t6 : (0 : Int) ≤ (t : Int) := by omega
                have t7 : (t : Int) < (n : Int) := by omega
                have hA1 : ¬ 9223372036854775807 < dx.size + 1 := by omega
                have hA2 : ¬ 9223372036854775807 < dx.size + 1 + dy.size := by omega
                have hsz1 : (dx ++ ⟨#[45]⟩).size ≤ 30 := by rw [ByteArray.size_append]; exact Nat.le_trans (Nat.add_le_add_right hdx 1) (by omega)
                go_wp2_with fail
                go_region_law (first
                  | (refine step_append_str w6.heap.size rfl rfl _ _ rfl w0.heap.size _ X.length X _ (HOwn.out _ HB6.out) rfl rfl (by omega) HZ6.out ?_; intro v' w8 g1 g2)
                  | (go_simp; go_at_call 19; refine (HIx.out _ (Below.refl _ _).drew).mono ?_; rintro e w5 ⟨rfl, b5⟩; have HB5 : Hid (Below W3.heap.size W3 w5) := Lib.hid ((Below.refl _ _).drew.trans b5); have c5 : w5.cell? ⟨b, off + t, none⟩ = some (.int .i64 y) := ((bcell HB5.out).1 _ _ hbl3).trans ct; clear b5)
                  | (go_simp; go_at_call 19; refine (HIy.out _ HB5.out).mono ?_; rintro e w6 ⟨rfl, b6⟩; have HB6 : Hid (Below W3.heap.size W3 w6) := Lib.hid (HB5.out.trans (b6.mono HB5.out.size)); have HZ6 : Hid (w0.heap.size ≤ w6.heap.size) := Lib.hid (Nat.le_trans hlo3 HB6.out.size); clear b6))
                all_goals
                  have HB8 : Hid (Below w0.heap.size w0 w8) := Lib.hid ((HB3.out.trans (HB6.out.mono hlo3)).grown g2 HZ6.out (fun k hk => ((HOwn.out _ HB6.out).lt k hk).1))
                  have HP8 : Hid (Parts L w0.heap.size w8 v' m) := Lib.hid ⟨X ++ [dx ++ ⟨#[45]⟩ ++ dy], by have := HM.out; simp; omega, by
                    have h9 := HXp.out
                    rw [HNew.out] at h9
                    rw [← h9]
                    unfold bsS
                    rw [List.map_append, List.append_assoc]
                    simp [HDx.out, HDy.out], by simpa using g1⟩
                  clear g1 g2 HOwn HXp HNew HIx HIy HDx HDy c0 ct c5 hA1 hA2 hsz1
                  go_wp2_with fail
                  go_roundw
                  case rel => exact ⟨m, _, by have := HM.out; omega, by first | rfl | go_num, rfl, HP8, HB8⟩
                  case measure => have := HM.out; simp [intOf]; omega
              · have hd3 : decide ((3 : Int) ≤ (m : Int) - (j : Int)) = false := decide_eq_false (by omega)
                have hmj : IntKind.i64.wrap ((m : Int) - (j : Int)) = (m : Int) - (j : Int) := IntWalk.i64_in _ (by omega)
                have HNew : Hid (pts L j = dg (pe L j) :: pts L (j + 1)) := Lib.hid (HOne.out j hlt (by rw [← HT.out]; exact h3))
                clear HRun HOne HEnd hm2 ct HDy HIy
                generalize pe L j = x at *
                go_wp2_with fail
                refine (HIx.out _ (Below.refl _ _)).mono ?_
                rintro e w5 ⟨rfl, b5⟩
                have HB5 := Lib.hid b5
                have HZ5 : w0.heap.size ≤ w5.heap.size := Nat.le_trans hlo3 b5.size
                clear b5
                go_wp2_with (at_builtin; go_must (refine wpList_append_str w5.heap.size rfl rfl _ _ rfl w0.heap.size _ X.length X dx (HOwn.out _ HB5.out) rfl rfl (by omega) HZ5 ?_))
                intro v' w8 g1 g2
                have HB8 : Hid (Below w0.heap.size w0 w8) := Lib.hid ((HB3.out.trans (HB5.out.mono hlo3)).grown g2 HZ5 (fun k hk => ((HOwn.out _ HB5.out).lt k hk).1))
                have HP8 : Hid (Parts L w0.heap.size w8 v' (j + 1)) := Lib.hid ⟨X ++ [dx], by simp; omega, by
                  have h9 := HXp.out
                  rw [HNew.out] at h9
                  rw [← h9]
                  unfold bsS
                  rw [List.map_append, List.append_assoc]
                  simp [HDx.out], by simpa using g1⟩
                clear g1 g2 HOwn HXp HNew
                go_wp2_with fail
                go_roundw
                case rel => exact ⟨j + 1, _, by omega, by go_num, rfl, HP8, HB8⟩
                case measure => simp [intOf]; omega
          · have HT : Hid (t = re L j) := Lib.hid (by subst hm; rw [← HR.out, HStop.out t (fun h => hin ((HNx.out t).1 h).1)])
            clear h4 hU hb1 hm
            go_wp2_with fail
            go_quiet (fail)
            have HB3 : Hid (Below w0.heap.size w0 (wr.drewN nq)) := Lib.hid (by rw [HQ.out]; exact bel_drewN (bel_drewN HBw.out q) nq)
            have HPt3 : Hid (Parts L w0.heap.size (wr.drewN nq) vv j) := Lib.hid (by rw [HQ.out]; exact HPt.out)
            have HCell3 : Hid (∀ i, i < n → (wr.drewN nq).cell? ⟨b, off + i, none⟩ = some (.int .i64 (pe L i))) := Lib.hid HCell.out
            have hbl3 : b < (wr.drewN nq).heap.size := hbl
            generalize wr.drewN nq = W3 at *
            have hm2 := HM.out
            have hlo3 : w0.heap.size ≤ W3.heap.size := HB3.out.size
            have HIx : Hid (∀ w', Below W3.heap.size W3 w' → Calls Tryd.prog 19 #[.int .i64 (pe L j)] w' fun e w'' => e = .returned (.string ⟨(dg (pe L j)).toArray⟩) ∧ Below w'.heap.size w' w'') := Lib.hid (fun w' hb => itoa_dg (pe L j) w' (HB.out j hlt).1 (by have := (HB.out j hlt).2; omega) (HPow.out w' (HB3.out.trans (hb.mono hlo3))))
            have HIy : Hid (∀ w', Below W3.heap.size W3 w' → Calls Tryd.prog 19 #[.int .i64 (pe L t)] w' fun e w'' => e = .returned (.string ⟨(dg (pe L t)).toArray⟩) ∧ Below w'.heap.size w' w'') := Lib.hid (fun w' hb => itoa_dg (pe L t) w' (HB.out t htn).1 (by have := (HB.out t htn).2; omega) (HPow.out w' (HB3.out.trans (hb.mono hlo3))))
            have hdx : (⟨(dg (pe L j)).toArray⟩ : ByteArray).size ≤ 21 := decS_size (by have := (HB.out j hlt).2; omega)
            have hdy : (⟨(dg (pe L t)).toArray⟩ : ByteArray).size ≤ 21 := decS_size (by have := (HB.out t htn).2; omega)
            have HDx : Hid ((⟨(dg (pe L j)).toArray⟩ : ByteArray).data.toList = dg (pe L j)) := Lib.hid (by simp)
            have HDy : Hid ((⟨(dg (pe L t)).toArray⟩ : ByteArray).data.toList = dg (pe L t)) := Lib.hid (by simp)
            obtain ⟨X, hXl, hXp, hXo⟩ := HPt3.out
            have HXp := Lib.hid hXp
            have HOwn : Hid (∀ w', Below W3.heap.size W3 w' → w'.ownsRow w0.heap.size 9 1 vv X.length (X.map Value.string)) := Lib.hid (fun w' hb => ((ownC_of hXo).below hb).row)
            have c0 := HCell3.out j hlt
            have ct := HCell3.out t htn
            clear HQ HCell HBw HPt hbl c1 HStep HStop HNx HR HPt3 hXp hXo HCell3
            generalize (⟨(dg (pe L j)).toArray⟩ : ByteArray) = dx at *
            generalize (⟨(dg (pe L t)).toArray⟩ : ByteArray) = dy at *
            by_cases h3 : j + 2 ≤ t
            · have hd3 : decide ((3 : Int) ≤ (m : Int) - (j : Int)) = true := decide_eq_true (by omega)
              have hmj : IntKind.i64.wrap ((m : Int) - (j : Int)) = (m : Int) - (j : Int) := IntWalk.i64_in _ (by omega)
              have HNew : Hid (pts L j = (dg (pe L j) ++ [45] ++ dg (pe L t)) :: pts L m) := Lib.hid (by
                have h1 := HRun.out j hlt (by rw [← HT.out]; exact h3)
                rw [← HT.out] at h1
                rw [h1, ← hm2])
              clear HRun HOne HEnd hm2
              generalize pe L j = x at *
              generalize pe L t = y at *
              have t5 : IntKind.i64.wrap (t : Int) = (t : Int) := IntWalk.i64_in _ (by omega)
              have t6 : (0 : Int) ≤ (t : Int) := by omega
              have t7 : (t : Int) < (n : Int) := by omega
              have hA1 : ¬ 9223372036854775807 < dx.size + 1 := by omega
              have hA2 : ¬ 9223372036854775807 < dx.size + 1 + dy.size := by omega
              have hsz1 : (dx ++ ⟨#[45]⟩).size ≤ 30 := by rw [ByteArray.size_append]; exact Nat.le_trans (Nat.add_le_add_right hdx 1) (by omega)
              go_wp2_with fail
              go_region_law (first
                | (refine step_append_str w6.heap.size rfl rfl _ _ rfl w0.heap.size _ X.length X _ (HOwn.out _ HB6.out) rfl rfl (by omega) HZ6.out ?_; intro v' w8 g1 g2)
                | (go_simp; go_at_call 19; refine (HIx.out _ (Below.refl _ _).drew).mono ?_; rintro e w5 ⟨rfl, b5⟩; have HB5 : Hid (Below W3.heap.size W3 w5) := Lib.hid ((Below.refl _ _).drew.trans b5); have c5 : w5.cell? ⟨b, off + t, none⟩ = some (.int .i64 y) := ((bcell HB5.out).1 _ _ hbl3).trans ct; clear b5)
                | (go_simp; go_at_call 19; refine (HIy.out _ HB5.out).mono ?_; rintro e w6 ⟨rfl, b6⟩; have HB6 : Hid (Below W3.heap.size W3 w6) := Lib.hid (HB5.out.trans (b6.mono HB5.out.size)); have HZ6 : Hid (w0.heap.size ≤ w6.heap.size) := Lib.hid (Nat.le_trans hlo3 HB6.out.size); clear b6))
              all_goals
                have HB8 : Hid (Below w0.heap.size w0 w8) := Lib.hid ((HB3.out.trans (HB6.out.mono hlo3)).grown g2 HZ6.out (fun k hk => ((HOwn.out _ HB6.out).lt k hk).1))
                have HP8 : Hid (Parts L w0.heap.size w8 v' m) := Lib.hid ⟨X ++ [dx ++ ⟨#[45]⟩ ++ dy], by have := HM.out; simp; omega, by
                  have h9 := HXp.out
                  rw [HNew.out] at h9
                  rw [← h9]
                  unfold bsS
                  rw [List.map_append, List.append_assoc]
                  simp [HDx.out, HDy.out], by simpa using g1⟩
                clear g1 g2 HOwn HXp HNew HIx HIy HDx HDy c0 ct c5 hA1 hA2 hsz1
                go_wp2_with fail
                go_roundw
                case rel => exact ⟨m, _, by have := HM.out; omega, by first | rfl | go_num, rfl, HP8, HB8⟩
                case measure => have := HM.out; simp [intOf]; omega
            · have hd3 : decide ((3 : Int) ≤ (m : Int) - (j : Int)) = false := decide_eq_false (by omega)
              have hmj : IntKind.i64.wrap ((m : Int) - (j : Int)) = (m : Int) - (j : Int) := IntWalk.i64_in _ (by omega)
              have HNew : Hid (pts L j = dg (pe L j) :: pts L (j + 1)) := Lib.hid (HOne.out j hlt (by rw [← HT.out]; exact h3))
              clear HRun HOne HEnd hm2 ct HDy HIy
              generalize pe L j = x at *
              go_wp2_with fail
              refine (HIx.out _ (Below.refl _ _)).mono ?_
              rintro e w5 ⟨rfl, b5⟩
              have HB5 := Lib.hid b5
              have HZ5 : w0.heap.size ≤ w5.heap.size := Nat.le_trans hlo3 b5.size
              clear b5
              go_wp2_with (at_builtin; go_must (refine wpList_append_str w5.heap.size rfl rfl _ _ rfl w0.heap.size _ X.length X dx (HOwn.out _ HB5.out) rfl rfl (by omega) HZ5 ?_))
              intro v' w8 g1 g2
              have HB8 : Hid (Below w0.heap.size w0 w8) := Lib.hid ((HB3.out.trans (HB5.out.mono hlo3)).grown g2 HZ5 (fun k hk => ((HOwn.out _ HB5.out).lt k hk).1))
              have HP8 : Hid (Parts L w0.heap.size w8 v' (j + 1)) := Lib.hid ⟨X ++ [dx], by simp; omega, by
                have h9 := HXp.out
                rw [HNew.out] at h9
                rw [← h9]
                unfold bsS
                rw [List.map_append, List.append_assoc]
                simp [HDx.out], by simpa using g1⟩
              clear g1 g2 HOwn HXp HNew
              go_wp2_with fail
              go_roundw
              case rel => exact ⟨j + 1, _, by omega, by go_num, rfl, HP8, HB8⟩
              case measure => simp [intOf]; omega
      · obtain rfl : j = n := by omega
        obtain ⟨X, hXl, hXp, hXo⟩ := HPt.out
        rw [HEnd.out, List.append_nil] at hXp
        have HX : Hid (X.map (·.data.toList) = pts L 0) := Lib.hid hXp
        clear HEnd HOne HRun HNx HStop HStep HLt HB HP HPow HPt hXp
        rcases hXo.2 with ⟨rfl, h0⟩ | ⟨g, cp, cur, rfl, hg1, hg2, hg3, hg4, _⟩
        · have hX0 : X = [] := List.eq_nil_of_length_eq_zero h0
          have HTxt : Hid ((⟨#[]⟩ : ByteArray) = ⟨(txt L).toArray⟩) := Lib.hid (by
            have := HX.out
            rw [hX0] at this
            unfold txt
            rw [← this]; rfl)
          clear hXo hXl h0 hX0 HX
          go_wp2_with fail
          refine (Tryd.strings_Join_none _ _ _ _).mono ?_
          rintro e w9 ⟨rfl, rfl⟩
          go_wp2_with fail
          go_ret
          refine ⟨(?_ : Ending.returned (.string ⟨#[]⟩) = _), HBw.out⟩
          rw [HTxt.out]
        · have HTxt : Hid (Lib.join (X.map (·.data.toList)) sepB = txt L) := Lib.hid (by rw [HX.out, jn_join]; rfl)
          have HC : Hid (∀ (i : Nat) x, X[i]? = some x → W.cell? ⟨g, 0 + i, none⟩ = some (.string x)) := Lib.hid (fun i x hx => by
            have hi : i < X.length := (List.getElem?_eq_some_iff.1 hx).1
            rw [Nat.zero_add, hXo.cellAt i (by omega), List.getElem?_map, hx]; rfl)
          have hgW : g < W.heap.size := (hXo.lt g rfl).2
          have hJ : (Lib.join (X.map (·.data.toList)) sepB).length ≤ 140737488355328 := by rw [HTxt.out]; have := HTl.out; omega
          have HJ := Lib.hid (Tryd.strings_Join g 0 cp X ⟨#[44, 32]⟩ W HC.out hgW (by omega) (by omega) hJ)
          generalize X.length = xl at *
          clear hXo hXl hg2 hg3 HX HC hJ
          go_wp2_with fail
          refine HJ.out.mono ?_
          rintro e w9 ⟨rfl, b9⟩
          go_wp2_with fail
          go_ret
          refine ⟨(?_ : Ending.returned (.string ⟨(Lib.join (X.map (·.data.toList)) sepB).toArray⟩) = _), HBw.out.trans (b9.mono HBw.out.size)⟩
          rw [HTxt.out]
end Go.Proofs.YtckmkjkckadfjaaDoor

/- What the laws over columns draw. -/
import Derived.Test.YtncbllhgkkkhoaaDrawCols
namespace Go.Proofs.Ytncbllhgkkkhoaa
open Go.RowKit
set_option maxHeartbeats 1000000
set_option maxRecDepth 100000

/-- One of some numbers written out. -/
theorem one_lit (rb P : Nat) (zs : List Int) (w : World) (T : TypeId) (hn : 1 ≤ zs.length) (hn2 : zs.length ≤ 1000000) (hP : P ≤ 900000) (hR : Rdr w rb P) :
    Calls Try.prog 42 #[.pointer (some ⟨rb, 0, none⟩), .slice (some ⟨w.heap.size, 0, none⟩) zs.length zs.length] (w.alloc (.cells (zs.map (Value.int .i64)).toArray T)) fun e w' => ∃ z, z ∈ zs ∧ e = .returned (.int .i64 z) ∧ Rdr w' rb (P + 1) ∧ Keeps rb w w' := by
  have hb := Below.alloc (Below.refl w.heap.size w) (Nat.le_refl _) (.cells (zs.map (Value.int .i64)).toArray T)
  refine (one_any rb P w.heap.size 0 zs.length zs.length (fun i => zs.getD i 0) _ hn hn2 hP (hR.below hb) (by simp) (by have := hR.lies; omega) (fun i hi => new_row w zs T i hi)).mono ?_
  rintro e w' ⟨i, hi, rfl, hR2, hK2⟩
  exact ⟨_, getD_mem zs i hi, rfl, hR2, (Keeps.of_below hR.lies hb).trans hK2⟩

def DrewLI (m : Nat) (zs : List Int) (w : World) (e : Ending) (w' : World) : Prop := ∃ (v : Value) (L : List Int) (z : Int), L.length ≤ m ∧ z ∈ zs ∧ e = .returned (.tuple #[v, .int .i64 z]) ∧ OwnI w.heap.size w'.heap.size w' v L ∧ Below w.heap.size w w'
theorem own_keeps {rb lo hi : Nat} {w w' : World} {v : Value} {L : List Int} (h : OwnI lo hi w v L) (hk : Keeps rb w w') (hB : rb < lo) : OwnI lo hi w' v L :=
  ⟨owns_keeps h.row hk hB, h.top, Nat.le_trans h.fits hk.below.size⟩

theorem drawColumnsNeeded_any (a : Option Addr) (len cap : Nat) (zs : List Int) (w : World) (h : RowIn .u8 w a len cap zs) :
    Calls Try.prog 19 #[.slice a len cap] w (DrewLI 10 [9, 12, 20, 5, 0, 10000, 10001, -1] w) := by
  have HR := Lib.hid h; clear h
  go_enter Try.func19, Try.ntmps19
  go_wp2_with fail
  refine (newReader_any a len cap zs _ HR.out).mono ?_
  rintro e w1 ⟨rfl, hR, hb⟩
  have hlt : w.heap.size < w1.heap.size := hR.lies
  have HB := Lib.hid hb
  clear hb
  go_wp2_with fail
  refine (someHeights_any w.heap.size 0 _ (by omega) hR).mono ?_
  rintro e w2 ⟨v, L, hL, rfl, o2, hR2, hK2⟩
  have HB2 := Lib.hid (HB.out.trans hK2.below)
  have HO2 := Lib.hid o2
  clear o2 hK2 hR HB
  go_wp2_with fail
  refine (one_lit w.heap.size (0 + 20) [9, 12, 20, 5, 0, 10000, 10001, -1] w2 _ (by simp) (by simp) (by omega) hR2).mono ?_
  rintro e w3 ⟨z, hz, rfl, hR3, hK3⟩
  have HB3 := Lib.hid (HB2.out.trans hK3.below)
  have HO3 := Lib.hid ((own_keeps HO2.out hK3 hlt).mono (Nat.le_of_lt hlt) hK3.below.size (Nat.le_refl _))
  have HZ := Lib.hid hz
  clear hz hK3 hR3 HO2 HB2
  go_wp2_with fail
  go_ret2
  exact ⟨v, L, z, hL, HZ.out, rfl, HO3.out, HB3.out⟩

theorem drawBalancedHeight_any (a : Option Addr) (len cap : Nat) (zs : List Int) (w : World) (h : RowIn .u8 w a len cap zs) :
    Calls Try.prog 24 #[.slice a len cap] w (DrewLI 10 [1, 2, 3, 4, 8, 0, 9] w) := by
  have HR := Lib.hid h; clear h
  go_enter Try.func24, Try.ntmps24
  go_wp2_with fail
  refine (newReader_any a len cap zs _ HR.out).mono ?_
  rintro e w1 ⟨rfl, hR, hb⟩
  have hlt : w.heap.size < w1.heap.size := hR.lies
  have HB := Lib.hid hb
  clear hb
  go_wp2_with fail
  refine (someHeights_any w.heap.size 0 _ (by omega) hR).mono ?_
  rintro e w2 ⟨v, L, hL, rfl, o2, hR2, hK2⟩
  have HB2 := Lib.hid (HB.out.trans hK2.below)
  have HO2 := Lib.hid o2
  clear o2 hK2 hR HB
  go_wp2_with fail
  refine (one_lit w.heap.size (0 + 20) [1, 2, 3, 4, 8, 0, 9] w2 _ (by simp) (by simp) (by omega) hR2).mono ?_
  rintro e w3 ⟨z, hz, rfl, hR3, hK3⟩
  have HB3 := Lib.hid (HB2.out.trans hK3.below)
  have HO3 := Lib.hid ((own_keeps HO2.out hK3 hlt).mono (Nat.le_of_lt hlt) hK3.below.size (Nat.le_refl _))
  have HZ := Lib.hid hz
  clear hz hK3 hR3 HO2 HB2
  go_wp2_with fail
  go_ret2
  exact ⟨v, L, z, hL, HZ.out, rfl, HO3.out, HB3.out⟩

theorem drawBalanceColumns_any (a : Option Addr) (len cap : Nat) (zs : List Int) (w : World) (h : RowIn .u8 w a len cap zs) :
    Calls Try.prog 30 #[.slice a len cap] w (DrewLI 10 [1, 2, 3, 4, 8, 0, 9] w) := by
  have HR := Lib.hid h; clear h
  go_enter Try.func30, Try.ntmps30
  go_wp2_with fail
  refine (drawBalancedHeight_any a len cap zs _ HR.out).mono ?_
  rintro e w3 ⟨v, L, z, hL, hz, rfl, hO, hB⟩
  have HZ := Lib.hid hz
  clear hz
  go_wp2_with fail
  go_ret2
  exact ⟨v, L, z, hL, HZ.out, rfl, hO, hB⟩

def DrewLL (m m2 : Nat) (w : World) (e : Ending) (w' : World) : Prop := ∃ (v u : Value) (L E : List Int), L.length ≤ m ∧ E.length ≤ m2 ∧ e = .returned (.tuple #[v, u]) ∧ OwnI w.heap.size w'.heap.size w' v L ∧ OwnI w.heap.size w'.heap.size w' u E ∧ Below w.heap.size w w'
theorem slice_len {lo hi : Nat} {w : World} {v : Value} {L : List Int} (h : OwnI lo hi w v L) : ∃ a c, v = .slice a L.length c := by
  obtain ⟨a, c, e, _⟩ := h.sl; exact ⟨a, c, e⟩
theorem drawCheckColumns_any (a : Option Addr) (len cap : Nat) (zs : List Int) (w : World) (h : RowIn .u8 w a len cap zs) :
    Calls Try.prog 22 #[.slice a len cap] w (DrewLL 10 40 w) := by
  have HR := Lib.hid h; clear h
  go_enter Try.func22, Try.ntmps22
  go_wp2_with fail
  refine (newReader_any a len cap zs _ HR.out).mono ?_
  rintro e w1 ⟨rfl, hR, hb⟩
  have hlt : w.heap.size < w1.heap.size := hR.lies
  have HB := Lib.hid hb
  clear hb
  go_wp2_with fail
  refine (someHeights_any w.heap.size 0 _ (by omega) hR).mono ?_
  rintro e w2 ⟨v, L, hL, rfl, o2, hR2, hK2⟩
  have hlt2 : w.heap.size < w2.heap.size := hR2.lies
  have HB2 := Lib.hid (HB.out.trans hK2.below)
  have HO2 := Lib.hid o2
  obtain ⟨av, cv, rfl⟩ := slice_len o2
  clear o2 hK2 hR HB
  go_wp2_with fail
  refine (someEnds_any w.heap.size (0 + 20) L.length w2 (by omega) (by omega) hR2).mono ?_
  rintro e w3 ⟨u, E, hE, rfl, o3, hR3, hK3⟩
  have HB3 := Lib.hid (HB2.out.trans hK3.below)
  have HO3 := Lib.hid ((own_keeps HO2.out hK3 hlt).mono (Nat.le_of_lt hlt) hK3.below.size (Nat.le_refl _))
  have HE3 := Lib.hid (o3.mono (Nat.le_of_lt hlt2) (Nat.le_refl _) (Nat.le_refl _))
  clear hK3 hR3 HO2 HB2 o3
  go_wp2_with fail
  go_ret2
  exact ⟨_, u, L, E, hL, hE, rfl, HO3.out, HE3.out, HB3.out⟩

def DrewLIL (m m2 : Nat) (w : World) (e : Ending) (w' : World) : Prop := ∃ (v u : Value) (L E : List Int) (c : Nat), L.length ≤ m ∧ E.length ≤ m2 ∧ 1 ≤ c ∧ c ≤ 5 ∧ e = .returned (.tuple #[v, .int .i64 c, u]) ∧ OwnI w.heap.size w'.heap.size w' v L ∧ OwnI w.heap.size w'.heap.size w' u E ∧ Below w.heap.size w w'
theorem drawBalanced_any (a : Option Addr) (len cap : Nat) (zs : List Int) (w : World) (h : RowIn .u8 w a len cap zs) :
    Calls Try.prog 29 #[.slice a len cap] w (DrewLIL 10 40 w) := by
  have HR := Lib.hid h; clear h
  go_enter Try.func29, Try.ntmps29
  go_wp2_with fail
  refine (newReader_any a len cap zs _ HR.out).mono ?_
  rintro e w1 ⟨rfl, hR, hb⟩
  have hlt : w.heap.size < w1.heap.size := hR.lies
  have HB := Lib.hid hb
  clear hb
  go_wp2_with fail
  refine (someHeights_any w.heap.size 0 _ (by omega) hR).mono ?_
  rintro e w2 ⟨v, L, hL, rfl, o2, hR2, hK2⟩
  have HB2 := Lib.hid (HB.out.trans hK2.below)
  have HO2 := Lib.hid o2
  obtain ⟨av, cv, rfl⟩ := slice_len o2
  clear o2 hK2 hR HB
  go_wp2_with fail
  refine (pick_pos w.heap.size (0 + 20) 5 _ (by omega) (by omega) hR2).mono ?_
  rintro e w3 ⟨x, hx, rfl, hR3, hK3⟩
  have hlt2 : w.heap.size < w3.heap.size := hR3.lies
  have HB3 := Lib.hid (HB2.out.trans hK3.below)
  have HO3 := Lib.hid ((own_keeps HO2.out hK3 hlt).mono (Nat.le_refl _) hK3.below.size (Nat.le_refl _))
  clear hK3 hR2 HO2 HB2
  go_wp2_with fail
  refine (someEnds_any w.heap.size (0 + 20 + 1) L.length w3 (by omega) (by omega) hR3).mono ?_
  rintro e w4 ⟨u, E, hE, rfl, o4, hR4, hK4⟩
  have HB4 := Lib.hid (HB3.out.trans hK4.below)
  have HO4 := Lib.hid ((own_keeps HO3.out hK4 hlt).mono (Nat.le_of_lt hlt) hK4.below.size (Nat.le_refl _))
  have HE4 := Lib.hid (o4.mono (Nat.le_of_lt hlt2) (Nat.le_refl _) (Nat.le_refl _))
  clear hK4 hR4 HO3 HB3 o4
  go_wp2_with fail
  refine bodyPost_ret (v := .tuple #[.slice av L.length cv, .int .i64 ((1 + x : Nat) : Int), u]) (by simp [results, Try.results29, go_sem]) rfl ⟨_, u, L, E, 1 + x, hL, hE, by omega, by omega, rfl, HO4.out, HE4.out, HB4.out⟩
end Go.Proofs.Ytncbllhgkkkhoaa

/- One of some strings; a string with a byte replaced, cut or added. -/
import Derived.Test.YtckmkjkckadfjaaDoorDraws
import Derived.Deep.RegionWith
namespace Go.Proofs.YtckmkjkckadfjaaDoor
open Go.RowKit
set_option maxHeartbeats 400000

/-- A string that is not too long. -/
def SomeStr (n : Nat) (rb P : Nat) (w : World) (e : Ending) (w' : World) : Prop := ∃ s : ByteArray, s.size ≤ n ∧ e = .returned (.string s) ∧ Rdr w' rb P ∧ Keeps rb w w'
theorem of_any (rb P sb off : Nat) (n cap m : Nat) (z : Nat → ByteArray) (w : World) (hn : 1 ≤ n) (hn2 : n ≤ 1000000) (hP : P ≤ 900000) (hR : Rdr w rb P) (hs : sb < w.heap.size) (hsr : sb ≠ rb)
    (hc : ∀ i, i < n → w.cell? ⟨sb, off + i, none⟩ = some (.string (z i)) ∧ (z i).size ≤ m) :
    Calls Tryd.prog 29 #[.pointer (some ⟨rb, 0, none⟩), .slice (some ⟨sb, off, none⟩) n cap] w (SomeStr m rb (P + 1) w) := by
  go_enter Tryd.func29, Tryd.ntmps29
  go_wp2_with (go_at_call 27; refine (pick_pos rb P n _ (by omega) hP hR).mono ?_; rintro e w1 ⟨v, hv, rfl, hR1, hK1⟩; have hcv : w1.cell? ⟨sb, off + v, none⟩ = some (.string (z v)) := (hK1.cell hs hsr).trans (hc v (by omega)).1)
  go_ret
  exact ⟨z v, (hc v (by omega)).2, rfl, hR1, hK1⟩

theorem new_srow (w : World) (L : List ByteArray) (T : TypeId) (i : Nat) (h : i < L.length) : (w.alloc (.cells (L.map Value.string).toArray T)).cell? ⟨w.heap.size, 0 + i, none⟩ = some (.string (L.getD i ByteArray.empty)) := by
  rw [World.cell?_alloc_new, Nat.zero_add]
  simp [h, List.getD_eq_getElem?_getD]
/-- One of the strings of a new row. -/
theorem of_new (rb P : Nat) (L : List ByteArray) (n m : Nat) (w : World) (hl : L.length = n) (hn : 1 ≤ n) (hn2 : n ≤ 1000000) (hP : P ≤ 900000) (hR : Rdr w rb P) (hm : ∀ s ∈ L, s.size ≤ m) (T : TypeId) :
    Calls Tryd.prog 29 #[.pointer (some ⟨rb, 0, none⟩), .slice (some ⟨w.heap.size, 0, none⟩) n n] (w.alloc (.cells (L.map Value.string).toArray T)) (SomeStr m rb (P + 1) w) := by
  subst hl
  have hb := Below.alloc (Below.refl w.heap.size w) (Nat.le_refl _) (.cells (L.map Value.string).toArray T)
  refine (of_any rb P w.heap.size 0 L.length L.length m (fun i => L.getD i ByteArray.empty) _ hn hn2 hP (hR.below hb) (by simp) (by have := hR.lies; omega) (fun i hi => ⟨new_srow w L T i hi, ?_⟩)).mono ?_
  · refine hm _ ?_
    show L.getD i ByteArray.empty ∈ L
    rw [List.getD_eq_getElem?_getD, List.getElem?_eq_getElem hi]
    exact List.getElem_mem _
  · rintro e w1 ⟨s, hs, he, hR1, hK⟩
    exact ⟨s, hs, he, hR1, (Keeps.of_below hR.lies hb).trans hK⟩

/-- One of the strings of a new row, which one is left open. -/
def SomeIn (L : List ByteArray) (rb P : Nat) (w : World) (e : Ending) (w' : World) : Prop := ∃ s : ByteArray, s ∈ L ∧ e = .returned (.string s) ∧ Rdr w' rb P ∧ Keeps rb w w'
def OneOfS (n : Nat) (z : Nat → ByteArray) (rb P : Nat) (w : World) (e : Ending) (w' : World) : Prop := ∃ v : Nat, v < n ∧ e = .returned (.string (z v)) ∧ Rdr w' rb P ∧ Keeps rb w w'
theorem of_anyP (rb P sb off : Nat) (n cap : Nat) (z : Nat → ByteArray) (w : World) (hn : 1 ≤ n) (hn2 : n ≤ 1000000) (hP : P ≤ 900000) (hR : Rdr w rb P) (hs : sb < w.heap.size) (hsr : sb ≠ rb)
    (hc : ∀ i, i < n → w.cell? ⟨sb, off + i, none⟩ = some (.string (z i)) ∧ i < n) :
    Calls Tryd.prog 29 #[.pointer (some ⟨rb, 0, none⟩), .slice (some ⟨sb, off, none⟩) n cap] w (OneOfS n z rb (P + 1) w) := by
  go_enter Tryd.func29, Tryd.ntmps29
  go_wp2_with (go_at_call 27; refine (pick_pos rb P n _ (by omega) hP hR).mono ?_; rintro e w1 ⟨v, hv, rfl, hR1, hK1⟩; have hcv : w1.cell? ⟨sb, off + v, none⟩ = some (.string (z v)) := (hK1.cell hs hsr).trans (hc v (by omega)).1)
  go_ret
  exact ⟨v, (hc v (by omega)).2, rfl, hR1, hK1⟩
theorem of_pick (rb P : Nat) (L : List ByteArray) (n : Nat) (w : World) (hl : L.length = n) (hn : 1 ≤ n) (hn2 : n ≤ 1000000) (hP : P ≤ 900000) (hR : Rdr w rb P) (T : TypeId) :
    Calls Tryd.prog 29 #[.pointer (some ⟨rb, 0, none⟩), .slice (some ⟨w.heap.size, 0, none⟩) n n] (w.alloc (.cells (L.map Value.string).toArray T)) (SomeIn L rb (P + 1) w) := by
  subst hl
  have hb := Below.alloc (Below.refl w.heap.size w) (Nat.le_refl _) (.cells (L.map Value.string).toArray T)
  refine (of_anyP rb P w.heap.size 0 L.length L.length (fun i => L.getD i ByteArray.empty) _ hn hn2 hP (hR.below hb) (by simp) (by have := hR.lies; omega) (fun i hi => ⟨new_srow w L T i hi, hi⟩)).mono ?_
  rintro e w1 ⟨v, hv, he, hR1, hK⟩
  refine ⟨_, ?_, he, hR1, (Keeps.of_below hR.lies hb).trans hK⟩
  show L.getD v ByteArray.empty ∈ L
  rw [List.getD_eq_getElem?_getD, List.getElem?_eq_getElem hv]
  exact List.getElem_mem _

theorem mutate_any (rb P : Nat) (s : ByteArray) (w : World) (hP : P ≤ 800000) (hR : Rdr w rb P) (hs : s.size ≤ 100000) :
    Calls Tryd.prog 28 #[.pointer (some ⟨rb, 0, none⟩), .string s] w (SomeStr (s.size + 10) rb (P + 3) w) := by
  go_enter Tryd.func28, Tryd.ntmps28
  go_wp2_with fail
  refine (pick_pos rb P ((s.size : Int) + 1) _ (by omega) (by omega) hR).mono ?_
  rintro e w1 ⟨k, hk, rfl, hR1, hK1⟩
  go_wp2_with fail
  refine (pick_pos rb (P + 1) 5 _ (by omega) (by omega) hR1).mono ?_
  rintro e w2 ⟨c, hc, rfl, hR2, hK2⟩
  have HK := hK1.trans hK2
  clear hK1 hK2 hR1
  by_cases h0 : c = 0
  · subst h0
    by_cases hlt : k < s.size
    · have k1 : IntKind.i64.wrap ((k : Int) + 1) = (k : Int) + 1 := IntWalk.i64_in _ (by omega)
      have k2 : (0 : Int) ≤ (k : Int) + 1 := by omega
      have k3 : ((k : Int) + 1).toNat = k + 1 := by omega
      have k4 : (k : Int) + 1 ≤ s.size := by omega
      go_wp2_with fail
      go_region_with (go_at_call 29; refine (of_new rb (P + 1 + 1) [⟨#[48]⟩, ⟨#[49]⟩, ⟨#[32]⟩, ⟨#[45]⟩, ⟨#[44]⟩, ⟨#[97]⟩, ⟨#[46]⟩, ⟨#[57]⟩] 8 1 _ rfl (by omega) (by omega) (by omega) (by exact hR2.drewN 1) (by decide) _).mono ?_; rintro e w3 ⟨t, ht, rfl, hR3, hK3⟩)
      all_goals
        have hz : (s.extract 0 k ++ t ++ s.extract (k + 1) s.size).size ≤ s.size + 10 := by simp only [ByteArray.size_append, ByteArray.size_extract]; omega
        have HZ := Lib.hid hz
        have HK4 : Hid (Keeps rb w w3) := HK.trans ((⟨below_drewN (Below.refl _ _) _, fun _ _ _ => rfl⟩ : Keeps rb w2 (w2.drewN 1)).trans hK3)
        clear k1 k2 k3 k4 hz hK3 HK
        go_wp2_with fail
        go_ret
        exact ⟨_, HZ.out, rfl, hR3, HK4.out⟩
    · have hd : decide ((k : Int) < s.size) = false := by simp; omega
      go_wp2_with fail
      go_ret
      exact ⟨s, by omega, rfl, hR2.mono (by omega), HK⟩
  · by_cases h1 : c = 1
    · subst h1
      go_wp2_with fail
      go_ret
      exact ⟨s.extract 0 k, by simp only [ByteArray.size_extract]; omega, rfl, hR2.mono (by omega), HK⟩
    · by_cases h2 : c = 2
      · subst h2
        go_wp2_with fail
        refine (of_new rb (P + 1 + 1) [⟨#[48]⟩, ⟨#[32]⟩, ⟨#[105]⟩, ⟨#[44, 32, 49]⟩, ⟨#[120]⟩, ⟨#[59, 32]⟩] 6 3 _ rfl (by omega) (by omega) (by omega) hR2 (by decide) _).mono ?_
        rintro e w3 ⟨t, ht, rfl, hR3, hK3⟩
        have HZ : Hid ((s ++ t).size ≤ s.size + 10) := by simp only [ByteArray.size_append]; exact Nat.add_le_add_left (by omega) _
        have HK4 : Hid (Keeps rb w w3) := HK.trans hK3
        clear hK3 HK
        go_wp2_with fail
        go_ret
        exact ⟨_, HZ.out, rfl, hR3, HK4.out⟩
      · have e0 : ((c : Int) == 0) = false := by simp; omega
        have e1 : ((c : Int) == 1) = false := by simp; omega
        have e2 : ((c : Int) == 2) = false := by simp; omega
        go_wp2_with fail
        go_ret
        exact ⟨s, by omega, rfl, hR2.mono (by omega), HK⟩
end Go.Proofs.YtckmkjkckadfjaaDoor

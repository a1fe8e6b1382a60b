/- The reader of codes: what (*reader).pick gives back and what it leaves of memory. -/
import Derived.Test.YtckmkjkckadfjaaDoorBase
namespace Go.Proofs.YtckmkjkckadfjaaDoor
open Go.RowKit
set_option maxHeartbeats 400000

theorem pick_none (rb : Nat) (n p : Int) (sv : Option Addr) (len cap : Nat) (w : World) (hp0 : 0 ≤ p) (hp : p ≤ 1000000) (_hlen : len ≤ 2000) (h0 : n < 1)
    (_c0 : w.cell? ⟨rb, 0, none⟩ = some (.slice sv len cap)) (c1 : w.cell? ⟨rb, 1, none⟩ = some (.int .i64 p)) (f1 : w.frozen? ⟨rb, 1, none⟩ = false) :
    Calls Tryd.prog 27 #[.pointer (some ⟨rb, 0, none⟩), .int .i64 n] w fun e w' => e = .returned (.int .i64 0) ∧ w.setCell ⟨rb, 1, none⟩ (.int .i64 (p + 1)) = w' := by
  have hd : decide (n < 1) = true := by simp; omega
  go_enter Tryd.func27, Tryd.ntmps27
  go_wp2
  go_ret
  exact ⟨rfl, rfl⟩
theorem pick_empty (rb : Nat) (n p : Int) (sv : Option Addr) (cap : Nat) (w : World) (hp0 : 0 ≤ p) (hp : p ≤ 1000000) (h0 : 1 ≤ n)
    (c0 : w.cell? ⟨rb, 0, none⟩ = some (.slice sv 0 cap)) (c1 : w.cell? ⟨rb, 1, none⟩ = some (.int .i64 p)) (f1 : w.frozen? ⟨rb, 1, none⟩ = false) :
    Calls Tryd.prog 27 #[.pointer (some ⟨rb, 0, none⟩), .int .i64 n] w fun e w' => e = .returned (.int .i64 0) ∧ w.setCell ⟨rb, 1, none⟩ (.int .i64 (p + 1)) = w' := by
  have hd : decide (n < 1) = false := by simp; omega
  go_enter Tryd.func27, Tryd.ntmps27
  go_wp2
  go_ret
  exact ⟨rfl, rfl⟩
theorem pick_in (rb b off : Nat) (n : Int) (k : Nat) (len cap : Nat) (z : Nat → Int) (w : World) (hk : k < len) (hlen : len ≤ 2000) (h0 : 1 ≤ n) (hb : b ≠ rb)
    (c0 : w.cell? ⟨rb, 0, none⟩ = some (.slice (some ⟨b, off, none⟩) len cap)) (c1 : w.cell? ⟨rb, 1, none⟩ = some (.int .i64 k)) (f1 : w.frozen? ⟨rb, 1, none⟩ = false)
    (cz : w.cell? ⟨b, off + k, none⟩ = some (.int .u8 (z k))) (hz0 : 0 ≤ z k) (hz : z k ≤ 255) :
    Calls Tryd.prog 27 #[.pointer (some ⟨rb, 0, none⟩), .int .i64 n] w fun e w' => e = .returned (.int .i64 (z k % n)) ∧ w.setCell ⟨rb, 1, none⟩ (.int .i64 (k + 1)) = w' := by
  have hd : decide (n < 1) = false := by simp; omega
  have hd2 : ((len : Int) == 0) = false := by simp; omega
  have hn0 : (n == 0) = false := by simp; omega
  go_enter Tryd.func27, Tryd.ntmps27
  go_wp2
  go_ret
  exact ⟨rfl, rfl⟩
theorem pick_out (rb b off : Nat) (n : Int) (k : Nat) (len cap : Nat) (z : Nat → Int) (w : World) (hk : len ≤ k) (hkk : k ≤ 1000000) (hl0 : 1 ≤ len) (hlen : len ≤ 2000) (h0 : 1 ≤ n) (hb : b ≠ rb)
    (c0 : w.cell? ⟨rb, 0, none⟩ = some (.slice (some ⟨b, off, none⟩) len cap)) (c1 : w.cell? ⟨rb, 1, none⟩ = some (.int .i64 k)) (f1 : w.frozen? ⟨rb, 1, none⟩ = false)
    (cz : ∀ i, i < len → w.cell? ⟨b, off + i, none⟩ = some (.int .u8 (z i))) (hz : ∀ i, i < len → 0 ≤ z i ∧ z i ≤ 255) :
    Calls Tryd.prog 27 #[.pointer (some ⟨rb, 0, none⟩), .int .i64 n] w fun e w' => ∃ x nq : Nat, e = .returned (.int .i64 (x % n)) ∧ (w.setCell ⟨rb, 1, none⟩ (.int .i64 (k + 1))).drewN nq = w' := by
  have hd : decide (n < 1) = false := by simp; omega
  have hd2 : ((len : Int) == 0) = false := by simp; omega
  have hd3 : decide ((k : Int) < len) = false := by simp; omega
  have hn0 : (n == 0) = false := by simp; omega
  have hm1 : k % len < len := Nat.mod_lt _ (by omega)
  have hm2 : (k * 7 + 3) % len < len := Nat.mod_lt _ (by omega)
  have e1 := cz _ hm1
  have e2 := cz _ hm2
  obtain ⟨y1, hy1, y1a, y1b⟩ : ∃ y, z (k % len) = y ∧ 0 ≤ y ∧ y ≤ 255 := ⟨_, rfl, (hz _ hm1).1, (hz _ hm1).2⟩
  obtain ⟨y2, hy2, y2a, y2b⟩ : ∃ y, z ((k * 7 + 3) % len) = y ∧ 0 ≤ y ∧ y ≤ 255 := ⟨_, rfl, (hz _ hm2).1, (hz _ hm2).2⟩
  rw [hy1] at e1
  rw [hy2] at e2
  clear hy1 hy2 cz hz
  obtain ⟨q, hq, hqb⟩ : ∃ q : Nat, (k : Int) / len = q ∧ q ≤ 1000000 := ⟨k / len, by simp, by have : k / len ≤ k := Nat.div_le_self _ _; omega⟩
  obtain ⟨i1, hi1, hi1b⟩ : ∃ i : Nat, k % len = i ∧ i < len := ⟨_, rfl, hm1⟩
  obtain ⟨i2, hi2, hi2b⟩ : ∃ i : Nat, (k * 7 + 3) % len = i ∧ i < len := ⟨_, rfl, hm2⟩
  rw [hi1] at e1
  rw [hi2] at e2
  have j1 : (k : Int) % len = i1 := by rw [← hi1]; simp
  have j2 : ((k : Int) * 7 + 3) % len = i2 := by rw [← hi2]; simp
  have j3 : Int.tmod (k : Int) len = i1 := by rw [Int.tmod_eq_emod_of_nonneg (by omega)]; exact j1
  have j4 : Int.tmod ((k : Int) * 7 + 3) len = i2 := by rw [Int.tmod_eq_emod_of_nonneg (by omega)]; exact j2
  have j5 : Int.tdiv (k : Int) len = q := by rw [Int.tdiv_eq_ediv_of_nonneg (by omega)]; exact hq
  have s1 : IntKind.i64.wrap (y1 * 131) = y1 * 131 := IntWalk.i64_in _ (by omega)
  have s2 : IntKind.i64.wrap (y2 * 1117) = y2 * 1117 := IntWalk.i64_in _ (by omega)
  have s3 : IntKind.i64.wrap (y1 * 131 + y2 * 1117) = y1 * 131 + y2 * 1117 := IntWalk.i64_in _ (by omega)
  have s4 : IntKind.i64.wrap ((k : Int) * 29) = k * 29 := IntWalk.i64_in _ (by omega)
  have s5 : IntKind.i64.wrap (y1 * 131 + y2 * 1117 + k * 29) = y1 * 131 + y2 * 1117 + k * 29 := IntWalk.i64_in _ (by omega)
  have s6 : IntKind.i64.wrap ((q : Int) * 53) = q * 53 := IntWalk.i64_in _ (by omega)
  have s7 : IntKind.i64.wrap (y1 * 131 + y2 * 1117 + k * 29 + q * 53) = y1 * 131 + y2 * 1117 + k * 29 + q * 53 := IntWalk.i64_in _ (by omega)
  have s8 : IntKind.i64.wrap ((k : Int) * 7) = k * 7 := IntWalk.i64_in _ (by omega)
  have s9 : IntKind.i64.wrap ((k : Int) * 7 + 3) = k * 7 + 3 := IntWalk.i64_in _ (by omega)
  have s10 : IntKind.i64.wrap (q : Int) = q := IntWalk.i64_in _ (by omega)
  have s11 : IntKind.i64.wrap (i1 : Int) = i1 := IntWalk.i64_in _ (by omega)
  have s12 : IntKind.i64.wrap (i2 : Int) = i2 := IntWalk.i64_in _ (by omega)
  have n0 : ((len : Int) == 0) = false := hd2
  clear hm1 hm2 hi1 hi2
  go_enter Tryd.func27, Tryd.ntmps27
  go_wp2
  go_quiet (fail)
  clear s1 s2 s3 s4 s5 s6 s7 s8 s9 s10 s11 s12 j1 j2 j3 j4 j5 n0 e1 e2 c0 c1 f1
  obtain ⟨x, hx⟩ : ∃ x : Nat, y1 * 131 + y2 * 1117 + k * 29 + q * 53 = (x : Int) := ⟨(y1 * 131 + y2 * 1117 + k * 29 + q * 53).toNat, by omega⟩
  have hxb : x < 1000000000 := by omega
  rw [hx]
  clear hx hq
  go_wp2
  have h64 : (x : Int) / 64 = ((x / 64 : Nat) : Int) := by omega
  have hb0 : bits .xor .i64 (x : Int) ((x / 64 : Nat) : Int) = ((x ^^^ x / 64 : Nat) : Int) := i64_xor_nat _ _ (by omega) (by omega)
  refine bodyPost_ret (v := .int .i64 (((x ^^^ x / 64 : Nat) : Int) % n)) ?_ rfl ⟨_, nq, rfl, rfl⟩
  rw [results_tmp rfl]
  simp only [h64, hb0, Int.tmod_eq_emod_of_nonneg (Int.natCast_nonneg _)]
  rfl

/-- All blocks of old but the reader's are as they were. -/
structure Keeps (rb : Nat) (w w' : World) : Prop where
  below : Below rb w w'
  others : ∀ k, k < w.heap.size → k ≠ rb → w'.heap[k]? = w.heap[k]?
theorem Keeps.refl (rb : Nat) (w : World) : Keeps rb w w := ⟨Below.refl _ _, fun _ _ _ => rfl⟩
theorem Keeps.trans {rb : Nat} {a b c : World} (h : Keeps rb a b) (k : Keeps rb b c) : Keeps rb a c :=
  ⟨h.below.trans k.below, fun i hi hn => (k.others i (Nat.lt_of_lt_of_le hi h.below.size) hn).trans (h.others i hi hn)⟩
theorem Keeps.of_below {rb : Nat} {w w' : World} (hr : rb < w.heap.size) (h : Below w.heap.size w w') : Keeps rb w w' :=
  ⟨h.mono (Nat.le_of_lt hr), fun k hk _ => h.block k hk⟩
theorem Keeps.cell {rb : Nat} {w w' : World} (h : Keeps rb w w') {b o : Nat} (hb : b < w.heap.size) (hn : b ≠ rb) : w'.cell? ⟨b, o, none⟩ = w.cell? ⟨b, o, none⟩ :=
  World.cell?_of_block (w := w) (h.others b hb hn)
theorem Keeps.frozen {rb : Nat} {w w' : World} (h : Keeps rb w w') {b o : Nat} (hb : b < w.heap.size) (hn : b ≠ rb) : w'.frozen? ⟨b, o, none⟩ = w.frozen? ⟨b, o, none⟩ :=
  World.frozen?_of_block (w := w) (h.others b hb hn)
theorem Keeps.below_of {rb B : Nat} {w w' : World} (h : Keeps rb w w') (hB : B ≤ rb) : Below B w w' := h.below.mono hB

/-- In world w a reader lies in block rb, over bytes that lie below it; at most P numbers have been picked. -/
structure Rdr (w : World) (rb : Nat) (P : Nat) : Prop where
  lies : rb < w.heap.size
  free : w.frozen? ⟨rb, 1, none⟩ = false
  held : ∃ (sv : Option Addr) (len cap k : Nat), k ≤ P ∧ len ≤ 2000 ∧ w.cell? ⟨rb, 0, none⟩ = some (.slice sv len cap) ∧ w.cell? ⟨rb, 1, none⟩ = some (.int .i64 k) ∧
    (len = 0 ∨ ∃ (b off : Nat) (z : Nat → Int), sv = some ⟨b, off, none⟩ ∧ b < rb ∧ ∀ i, i < len → w.cell? ⟨b, off + i, none⟩ = some (.int .u8 (z i)) ∧ 0 ≤ z i ∧ z i ≤ 255)

theorem Rdr.mono {w : World} {rb P Q : Nat} (h : Rdr w rb P) (hq : P ≤ Q) : Rdr w rb Q :=
  ⟨h.lies, h.free, let ⟨sv, len, cap, k, hk, r⟩ := h.held; ⟨sv, len, cap, k, Nat.le_trans hk hq, r⟩⟩
/-- A call that only makes memory leaves the reader as it was. -/
theorem Rdr.below {w w' : World} {rb P : Nat} (h : Rdr w rb P) (hb : Below w.heap.size w w') : Rdr w' rb P := by
  refine ⟨Nat.lt_of_lt_of_le h.lies hb.size, by rw [(bcell hb).2 _ _ h.lies]; exact h.free, ?_⟩
  obtain ⟨sv, len, cap, k, hk, hl, c0, c1, r⟩ := h.held
  refine ⟨sv, len, cap, k, hk, hl, by rw [(bcell hb).1 _ _ h.lies]; exact c0, by rw [(bcell hb).1 _ _ h.lies]; exact c1, ?_⟩
  rcases r with r | ⟨b, off, z, e, hbr, hz⟩
  · exact .inl r
  · exact .inr ⟨b, off, z, e, hbr, fun i hi => by rw [(bcell hb).1 _ _ (Nat.lt_trans hbr h.lies)]; exact hz i hi⟩
theorem Rdr.drewN {w : World} {rb P : Nat} (h : Rdr w rb P) (n : Nat) : Rdr (w.drewN n) rb P := ⟨h.lies, h.free, h.held⟩

/-- What pick leaves, its position one further. -/
theorem Rdr.step {w : World} {rb P k : Nat} {sv : Option Addr} {len cap : Nat} (h : Rdr w rb P) (hk : k ≤ P) (hl : len ≤ 2000) (c0 : w.cell? ⟨rb, 0, none⟩ = some (.slice sv len cap))
    (c1 : w.cell? ⟨rb, 1, none⟩ = some (.int .i64 k)) (r : len = 0 ∨ ∃ (b off : Nat) (z : Nat → Int), sv = some ⟨b, off, none⟩ ∧ b < rb ∧ ∀ i, i < len → w.cell? ⟨b, off + i, none⟩ = some (.int .u8 (z i)) ∧ 0 ≤ z i ∧ z i ≤ 255) :
    Rdr (w.setCell ⟨rb, 1, none⟩ (.int .i64 ((k : Int) + 1))) rb (P + 1) ∧ Keeps rb w (w.setCell ⟨rb, 1, none⟩ (.int .i64 ((k : Int) + 1))) := by
  have hbl : Below rb w (w.setCell ⟨rb, 1, none⟩ (.int .i64 ((k : Int) + 1))) := Below.setCell (p := ⟨rb, 1, none⟩) (Below.refl _ _) (Nat.le_refl rb) _
  refine ⟨⟨Nat.lt_of_lt_of_le h.lies hbl.size, ?_, sv, len, cap, k + 1, by omega, hl, ?_, ?_, ?_⟩, hbl, fun i _ hn => Below.heap_setCell _ _ _ _ hn⟩
  · simpa [go_sem] using h.free
  · simpa [go_sem] using c0
  · simp [go_sem, c1]
  · rcases r with r | ⟨b, off, z, e, hbr, hz⟩
    · exact .inl r
    · refine .inr ⟨b, off, z, e, hbr, fun i hi => ?_⟩
      have := hbl.cell (p := ⟨b, off + i, none⟩) hbr
      rw [this]; exact hz i hi

def Picked (n : Int) (rb P : Nat) (w : World) (e : Ending) (w' : World) : Prop :=
  ∃ v : Nat, (v : Int) < n ∧ e = .returned (.int .i64 (v : Int)) ∧ Rdr w' rb P ∧ Keeps rb w w'

theorem pick_pos (rb P : Nat) (n : Int) (w : World) (h0 : 1 ≤ n) (hP : P ≤ 900000) (hR : Rdr w rb P) :
    Calls Tryd.prog 27 #[.pointer (some ⟨rb, 0, none⟩), .int .i64 n] w (Picked n rb (P + 1) w) := by
  obtain ⟨sv, len, cap, k, hk, hl, c0, c1, r⟩ := hR.held
  obtain ⟨hR', hK'⟩ := hR.step hk hl c0 c1 r
  rcases r with rfl | ⟨b, off, z, rfl, hbr, hz⟩
  · refine (pick_empty rb n k sv cap w (by omega) (by omega) h0 c0 c1 hR.free).mono ?_
    rintro e w' ⟨rfl, rfl⟩
    exact ⟨0, by omega, rfl, hR', hK'⟩
  · by_cases hlk : k < len
    · refine (pick_in rb b off n k len cap z w hlk hl h0 (by omega) c0 c1 hR.free (hz k hlk).1 (hz k hlk).2.1 (hz k hlk).2.2).mono ?_
      rintro e w' ⟨rfl, rfl⟩
      have h1 := Int.emod_nonneg (z k) (b := n) (by omega)
      have h2 := Int.emod_lt_of_pos (z k) (b := n) (by omega)
      exact ⟨(z k % n).toNat, by omega, by rw [Int.toNat_of_nonneg h1], hR', hK'⟩
    · by_cases hl0 : len = 0
      · subst hl0
        refine (pick_empty rb n k _ cap w (by omega) (by omega) h0 c0 c1 hR.free).mono ?_
        rintro e w' ⟨rfl, rfl⟩
        exact ⟨0, by omega, rfl, hR', hK'⟩
      · refine (pick_out rb b off n k len cap z w (by omega) (by omega) (by omega) hl h0 (by omega) c0 c1 hR.free (fun i hi => (hz i hi).1) (fun i hi => (hz i hi).2)).mono ?_
        rintro e w' ⟨x, nq, rfl, rfl⟩
        have h1 := Int.emod_nonneg (x : Int) (b := n) (by omega)
        have h2 := Int.emod_lt_of_pos (x : Int) (b := n) (by omega)
        exact ⟨((x : Int) % n).toNat, by omega, by rw [Int.toNat_of_nonneg h1], hR'.drewN _, hK'.trans ⟨below_drewN (Below.refl _ _) _, fun _ _ _ => rfl⟩⟩

/-- pick of a number that is not positive gives 0. -/
theorem pick_neg (rb P : Nat) (n : Int) (w : World) (h0 : n < 1) (hP : P ≤ 900000) (hR : Rdr w rb P) :
    Calls Tryd.prog 27 #[.pointer (some ⟨rb, 0, none⟩), .int .i64 n] w (Picked 1 rb (P + 1) w) := by
  obtain ⟨sv, len, cap, k, hk, hl, c0, c1, r⟩ := hR.held
  obtain ⟨hR', hK'⟩ := hR.step hk hl c0 c1 r
  refine (pick_none rb n k sv len cap w (by omega) (by omega) hl h0 c0 c1 hR.free).mono ?_
  rintro e w' ⟨rfl, rfl⟩
  exact ⟨0, by omega, rfl, hR', hK'⟩
end Go.Proofs.YtckmkjkckadfjaaDoor

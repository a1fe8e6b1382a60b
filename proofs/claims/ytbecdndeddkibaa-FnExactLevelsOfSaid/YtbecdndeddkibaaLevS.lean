/- The reference's LevelsOf gives levS. -/
import Derived.Test.YtbecdndeddkibaaLevI
import Derived.Test.YtbecdndeddkibaaAppend
namespace Go.Proofs.Ytbecdndeddkibaa
open Go.RowKit
set_option maxHeartbeats 2000000
set_option maxRecDepth 100000
set_option linter.unusedVariables false

structure SvRow (w wr : World) (g cap n : Nat) (M : List Int) : Prop where
  len : M.length = n
  low : w.heap.size ≤ g
  row : wr.ownsRow w.heap.size 3 1 (.slice (some ⟨g, 0, none⟩) n cap) n (M.map (Value.int .i64))
  below : Below w.heap.size w wr
theorem SvRow.cell {w wr : World} {g cap n : Nat} {M : List Int} (h : SvRow w wr g cap n M) (j : Nat) (hj : j < n) : wr.cell? ⟨g, j, none⟩ = some (.int .i64 (M.getD j 0)) := by
  have hl := h.len
  rw [h.row.cellAt j (by omega)]
  simp [List.getD_eq_getElem?_getD, hl, hj]
theorem SvRow.free {w wr : World} {g cap n : Nat} {M : List Int} (h : SvRow w wr g cap n M) (j : Nat) : wr.frozen? ⟨g, j, none⟩ = false := h.row.frozenAt j
theorem SvRow.set {w wr : World} {g cap n : Nat} {M : List Int} (h : SvRow w wr g cap n M) (j : Nat) (x : Int) : SvRow w (wr.setCell ⟨g, j, none⟩ (.int .i64 x)) g cap n (M.set j x) :=
  ⟨by simpa using h.len, h.low, by have := (h.row.stored j (.int .i64 x)).1; simpa [List.map_set] using this, h.below.setCell h.low _⟩

/-- The second loop: letters and digits before k have their levels, behind it what the first loop laid. -/
structure Sv1 (w wr : World) (g cap : Nat) (s : ByteArray) (b k : Nat) (M : List Int) : Prop where
  row : SvRow w wr g cap s.size M
  done : ∀ j, j < k → neuC (chS s j) = false → M.getD j 0 = (strF s b j : Int)
  rest : ∀ j, k ≤ j → j < s.size → M.getD j 0 = (lvlF (clsF (chS s j)) b : Int)
theorem Sv1.put {w wr : World} {g cap : Nat} {s : ByteArray} {b k : Nat} {M : List Int} (h : Sv1 w wr g cap s b k M) (hk : k < s.size) (x : Int) (hx : x = (strF s b k : Int)) : Sv1 w (wr.setCell ⟨g, k, none⟩ (.int .i64 x)) g cap s b (k + 1) (M.set k x) := by
  have hl := h.row.len
  refine ⟨h.row.set k x, fun j hj hn => ?_, fun j hj h2 => ?_⟩
  · rw [getD_setI _ _ _ _ (by omega)]
    by_cases e : j = k
    · rw [if_pos e, e, hx]
    · rw [if_neg e]; exact h.done j (by omega) hn
  · rw [getD_setI _ _ _ _ (by omega), if_neg (by omega)]; exact h.rest j (by omega) h2
theorem Sv1.skip {w wr : World} {g cap : Nat} {s : ByteArray} {b k : Nat} {M : List Int} (h : Sv1 w wr g cap s b k M) (hk : k < s.size) (hx : neuC (chS s k) = true ∨ strF s b k = lvlF (clsF (chS s k)) b) : Sv1 w wr g cap s b (k + 1) M := by
  refine ⟨h.row, fun j hj hn => ?_, fun j hj h2 => h.rest j (by omega) h2⟩
  by_cases e : j = k
  · subst e
    rcases hx with hx | hx
    · rw [hx] at hn; cases hn
    · rw [hx, h.rest j (Nat.le_refl _) hk]
  · exact h.done j (by omega) hn
structure Sv2 (w wr : World) (g cap : Nat) (s : ByteArray) (b f : Nat) (M : List Int) : Prop where
  row : SvRow w wr g cap s.size M
  fin : ∀ j, j < f → M.getD j 0 = (finF s b j : Int)
  str : ∀ j, f ≤ j → j < s.size → neuC (chS s j) = false → M.getD j 0 = (strF s b j : Int)
theorem Sv1.two {w wr : World} {g cap : Nat} {s : ByteArray} {b : Nat} {M : List Int} (h : Sv1 w wr g cap s b s.size M) : Sv2 w wr g cap s b 0 M :=
  ⟨h.row, fun j hj => by omega, fun j _ hj hn => h.done j hj hn⟩
theorem Sv2.skip {w wr : World} {g cap : Nat} {s : ByteArray} {b f : Nat} {M : List Int} (h : Sv2 w wr g cap s b f M) (hf : f < s.size) (hn : neuC (chS s f) = false) : Sv2 w wr g cap s b (f + 1) M :=
  ⟨h.row, fun j hj => by
    by_cases e : j = f
    · subst e; rw [h.str j (Nat.le_refl _) hf hn, finF_str hn]
    · exact h.fin j (by omega), fun j h1 h2 h3 => h.str j (by omega) h2 h3⟩
theorem Sv2.put {w wr : World} {g cap : Nat} {s : ByteArray} {b f : Nat} {M : List Int} (h : Sv2 w wr g cap s b f M) (hf : f < s.size) (x : Int) (hx : x = (finF s b f : Int)) : Sv2 w (wr.setCell ⟨g, f, none⟩ (.int .i64 x)) g cap s b (f + 1) (M.set f x) := by
  have hl := h.row.len
  refine ⟨h.row.set f x, fun j hj => ?_, fun j h1 h2 h3 => ?_⟩
  · rw [getD_setI _ _ _ _ (by omega)]
    by_cases e : j = f
    · rw [if_pos e, e, hx]
    · rw [if_neg e]; exact h.fin j (by omega)
  · rw [getD_setI _ _ _ _ (by omega), if_neg (by omega)]; exact h.str j (by omega) h2 h3
/-- A cell that is about to be written may hold anything. -/
theorem Sv2.smear {w wr : World} {g cap : Nat} {s : ByteArray} {b f : Nat} {M : List Int} (h : Sv2 w wr g cap s b f M) (hf : f < s.size) (hn : neuC (chS s f) = true) (x : Int) : Sv2 w (wr.setCell ⟨g, f, none⟩ (.int .i64 x)) g cap s b f (M.set f x) := by
  have hl := h.row.len
  refine ⟨h.row.set f x, fun j hj => ?_, fun j h1 h2 h3 => ?_⟩
  · rw [getD_setI _ _ _ _ (by omega), if_neg (by omega)]; exact h.fin j hj
  · rw [getD_setI _ _ _ _ (by omega)]
    by_cases e : j = f
    · subst e; rw [hn] at h3; cases h3
    · rw [if_neg e]; exact h.str j (by omega) h2 h3
theorem Sv2.out {w wr : World} {g cap : Nat} {s : ByteArray} {b : Nat} {M : List Int} (h : Sv2 w wr g cap s b s.size M) (hok : okT s = true) (hb : b ≤ 1) : M = levS s (b : Int) := levS_is hok hb h.row.len h.fin

def lv0 (s : ByteArray) (b k : Nat) : List Int := (List.range k).map (fun j => ((lvlF (clsF (chS s j)) b : Nat) : Int))
theorem lv0_len (s : ByteArray) (b k : Nat) : (lv0 s b k).length = k := by simp [lv0]
theorem lv0_snoc (s : ByteArray) (b k : Nat) : lv0 s b (k + 1) = lv0 s b k ++ [((lvlF (clsF (chS s k)) b : Nat) : Int)] := by unfold lv0; rw [List.range_succ]; simp
theorem lv0_at (s : ByteArray) (b k j : Nat) (h : j < k) : (lv0 s b k).getD j 0 = (lvlF (clsF (chS s j)) b : Int) := by simp [lv0, List.getD_eq_getElem?_getD, h]
theorem lvlF_le (c b : Nat) (hb : b ≤ 1) : lvlF c b ≤ 2 := by unfold lvlF; split <;> (try split) <;> omega

theorem clsF_neu {c : Nat} (h : neuC c = true) : clsF c = 0 := by
  obtain ⟨h1, h2, h3⟩ := neu_parts h
  unfold clsF
  rw [if_neg (by rw [h1]; decide), if_neg (by rw [h2]; decide), if_neg (by rw [h3]; decide)]
theorem clsF_str {c : Nat} (h : neuC c = false) : 1 ≤ clsF c := by
  unfold neuC at h
  unfold clsF
  split
  · omega
  · split
    · omega
    · split
      · omega
      · rename_i h1 h2 h3
        simp [h1, h2, h3] at h

theorem neut_is (P Q b : Nat) (hP : P ≤ 2) (hQ : Q ≤ 2) (hb : b ≤ 1) : neut P Q b = if P % 2 = Q % 2 ∧ P % 2 ≠ b % 2 then (if b = 1 then 2 else 1 - b) else b := by
  obtain rfl | rfl | rfl : P = 0 ∨ P = 1 ∨ P = 2 := by omega
  all_goals
    obtain rfl | rfl | rfl : Q = 0 ∨ Q = 1 ∨ Q = 2 := by omega
    all_goals
      obtain rfl | rfl : b = 0 ∨ b = 1 := by omega
      all_goals rfl

theorem slevelsOf_any (s : ByteArray) (b : Nat) (w : World) (hok : okT s = true) (hb1 : b ≤ 1) :
    Calls Try.prog 30 #[.string s, .int .i64 (b : Int)] w (GaveI (levS s (b : Int)) w) := by
  have h60 := okT_le hok
  have HOk := Lib.hid hok
  have HO0 : Hid ((w.alloc (.cells #[] 3)).ownsRow w.heap.size 3 1 (.slice (some ⟨w.heap.size, 0, none⟩) 0 0) 0 ((lv0 s b 0).map (Value.int .i64))) :=
    World.ownsRow_lit w #[] 0 (Nat.le_refl _) (Nat.zero_le _) rfl
  have HB0 : Hid (Below w.heap.size w (w.alloc (.cells #[] 3))) := (Below.refl _ _).alloc (Nat.le_refl _) _
  clear hok
  go_enter Try.func30, Try.ntmps30
  go_wp2_with fail
  go_loopw [5, 6] (fun v i wr => ∃ k : Nat, k ≤ s.size ∧ i = .int .i64 k ∧ Hid (wr.ownsRow w.heap.size 3 1 v k ((lv0 s b k).map (Value.int .i64))) ∧ Hid (Below w.heap.size w wr)) (fun _ i _ => s.size - (intOf i).toNat)
  case atStart => exact ⟨0, by omega, rfl, HO0, HB0⟩
  case round =>
    clear HO0 HB0
    obtain ⟨k, hk, rfl, HR, HB⟩ := hrel
    by_cases hlt : k < s.size
    · have hc := chS_at s k hlt
      have hcb := chS_byte s k
      have HS := Lib.hid (lv0_snoc s b k)
      have HLen := Lib.hid (lv0_len s b k)
      have hcl := clsF_le (chS s k)
      have hown := HR.out
      have hBs := HB.out.size
      generalize chS s k = c at *
      go_wp2_with fail
      refine (classOf_any c _).mono ?_
      rintro e w' ⟨rfl, rfl⟩
      go_wp2_with fail
      refine (levelOf_any (clsF c) b _ hcl hb1).mono ?_
      rintro e w' ⟨rfl, rfl⟩
      generalize clsF c = cl at *
      generalize lvlF cl b = z at *
      go_wp2_with (at_builtin; go_must (refine wpList_append_int rfl _ _ rfl w.heap.size _ k (lv0 s b k) (z : Int) hown rfl rfl (by omega) hBs ?_))
      intro v' w2 hown' hgrow
      rw [show (lv0 s b k).map (Value.int .i64) ++ [Value.int .i64 (z : Int)] = (lv0 s b (k + 1)).map (Value.int .i64) by rw [HS.out]; simp] at hown'
      have HO1 := Lib.hid hown'
      have HB1 : Hid (Below w.heap.size w w2) := HB.out.grown hgrow hBs (fun j hj => (hown.lt j hj).1)
      clear hown hown' hgrow hBs
      go_wp2_with fail
      go_roundw
      case rel => exact ⟨k + 1, by omega, by go_num, HO1, HB1⟩
      case measure => simp [intOf]; omega
    · obtain rfl : k = s.size := by omega
      clear hlt hk
      rcases HR.out.2 with ⟨rfl, h0⟩ | ⟨g, cp, cur, rfl, hg1, hg2, hg3, hg4, _⟩
      · have HF : Hid (levS s (b : Int) = []) := Lib.hid (by
          apply List.length_eq_zero_iff.1
          unfold levS
          rw [if_pos ⟨HOk.out, by omega, by omega⟩]
          simpa using h0)
        clear HR
        go_wp2_with fail
        go_loopw [7, 8] (fun l i wr' => l = .int .i64 b ∧ i = .int .i64 0 ∧ wr' = wr) (fun _ _ _ => 0)
        case atStart => exact ⟨rfl, rfl, rfl⟩
        case round =>
          obtain ⟨rfl, rfl, rfl⟩ := hrel
          go_wp2_with fail
          go_loopw [9] (fun i wr' => i = .int .i64 0 ∧ wr' = wr) (fun _ _ => 0)
          case atStart => exact ⟨rfl, rfl⟩
          case round =>
            obtain ⟨rfl, rfl⟩ := hrel
            go_wp2_with fail
            go_ret
            rw [HF.out]
            exact ⟨_, rfl, own_nil _ _ _ (Nat.le_refl _) |>.mono HB.out.size (Nat.le_refl _) (Nat.le_refl _), HB.out⟩
      · have H1 : Hid (Sv1 w wr g cp s b 0 (lv0 s b s.size)) := Lib.hid ⟨⟨lv0_len _ _ _, hg1, HR.out, HB.out⟩, fun j hj => by omega, fun j _ hj => lv0_at s b s.size j hj⟩
        unfold maxLen at hg4
        clear HR HB hg2
        go_wp2_with fail
        go_loopw [7, 8] (fun l i wr => ∃ (k : Nat) (M : List Int), k ≤ s.size ∧ i = .int .i64 k ∧ l = .int .i64 (lastF s b k : Int) ∧ Hid (Sv1 w wr g cp s b k M)) (fun _ i _ => s.size - (intOf i).toNat)
        case atStart => exact ⟨0, _, by omega, rfl, rfl, H1⟩
        case round =>
          clear H1
          obtain ⟨k, M, hk, rfl, rfl, HR⟩ := hrel
          by_cases hlt : k < s.size
          · have hc := chS_at s k hlt
            have hcb := chS_byte s k
            have HL := Lib.hid (classOf_any (chS s k))
            have HP := Lib.hid (fun x hx => HR.out.put hlt x hx)
            have HK := Lib.hid (fun hx => HR.out.skip hlt hx)
            have hf := HR.out.row.free k
            have hcell := HR.out.row.cell k hlt
            rw [HR.out.rest k (Nat.le_refl _) hlt] at hcell
            have hll := lastF_le s b hb1 k
            cases hlow : lowC (chS s k) with
            | true =>
              have hcl : clsF (chS s k) = 1 := by unfold clsF; rw [hlow]; rfl
              have HU := Lib.hid (lastF_low (base := b) hlow)
              have HX := Lib.hid (HK.out (.inr (by rw [strF_low hlow, hcl]; rfl)))
              rw [hcl] at hcell HL
              have hcell2 : wr.cell? ⟨g, k, none⟩ = some (.int .i64 ((2 * b : Nat) : Int)) := hcell
              clear HP HK hlow hcl hcell
              generalize lastF s b k = la at *
              obtain ⟨c, hcc⟩ : ∃ c, chS s k = c := ⟨_, rfl⟩
              rw [hcc] at hc HL hcb
              clear hcc
              go_wp2_with fail
              refine (HL.out _).mono ?_
              rintro e w' ⟨rfl, rfl⟩
              go_wp2_with fail
              go_roundw
              case rel => exact ⟨k + 1, M, by omega, by go_num, by rw [HU.out]; first | done | (rw [Int.natCast_mul]; rfl), HX⟩
              case measure => simp [intOf]; omega
            | false =>
              cases hup : upC (chS s k) with
              | true =>
                have hcl : clsF (chS s k) = 2 := by unfold clsF; rw [hlow, hup]; rfl
                have HU := Lib.hid (lastF_up (base := b) hlow hup)
                have HX := Lib.hid (HK.out (.inr (by rw [strF_up hlow hup, hcl]; rfl)))
                rw [hcl] at hcell HL
                have hcell2 : wr.cell? ⟨g, k, none⟩ = some (.int .i64 1) := hcell
                clear HP HK hlow hup hcl hcell
                generalize lastF s b k = la at *
                obtain ⟨c, hcc⟩ : ∃ c, chS s k = c := ⟨_, rfl⟩
                rw [hcc] at hc HL hcb
                clear hcc
                go_wp2_with fail
                refine (HL.out _).mono ?_
                rintro e w' ⟨rfl, rfl⟩
                go_wp2_with fail
                go_roundw
                case rel => exact ⟨k + 1, M, by omega, by go_num, by rw [HU.out]; rfl, HX⟩
                case measure => simp [intOf]; omega
              | false =>
                have HU := Lib.hid (lastF_else (base := b) hlow hup)
                cases hdig : digC (chS s k) with
                | true =>
                  have hcl : clsF (chS s k) = 3 := by unfold clsF; rw [hlow, hup, hdig]; rfl
                  have HS := Lib.hid (dig_spec hb1 hlow hup)
                  rw [hcl] at HL
                  by_cases hl1 : lastF s b k = 1
                  · have HX := Lib.hid (HP.out 2 (by rw [HS.out, if_pos hl1]; rfl))
                    have e1 : ((lastF s b k : Int) == 1) = true := by rw [hl1]; rfl
                    rw [hl1] at HU
                    rw [hl1]
                    clear HP HK hlow hup hdig hcl HS e1 hl1 hll
                    generalize M.getD k 0 = z0 at *
                    generalize lvlF (clsF (chS s k)) b = z1 at *
                    obtain ⟨c, hcc⟩ : ∃ c, chS s k = c := ⟨_, rfl⟩
                    rw [hcc] at hc HL hcb
                    clear hcc
                    go_wp2_with fail
                    refine (HL.out _).mono ?_
                    rintro e w' ⟨rfl, rfl⟩
                    go_wp2_with fail
                    go_roundw
                    case rel => exact ⟨k + 1, _, by omega, by go_num, by rw [HU.out]; rfl, HX⟩
                    case measure => simp [intOf]; omega
                  · have HX := Lib.hid (HK.out (.inr (by rw [HS.out, if_neg hl1, hcl]; rfl)))
                    have e1 : ((lastF s b k : Int) == 1) = false := by simp; omega
                    clear HP HK hlow hup hdig hcl HS hl1
                    generalize lastF s b k = la at *
                    obtain ⟨c, hcc⟩ : ∃ c, chS s k = c := ⟨_, rfl⟩
                    rw [hcc] at hc HL hcb
                    clear hcc hcell hf
                    go_wp2_with fail
                    refine (HL.out _).mono ?_
                    rintro e w' ⟨rfl, rfl⟩
                    go_wp2_with fail
                    go_roundw
                    case rel => exact ⟨k + 1, M, by omega, by go_num, by rw [HU.out], HX⟩
                    case measure => simp [intOf]; omega
                | false =>
                  have hcl : clsF (chS s k) = 0 := by unfold clsF; rw [hlow, hup, hdig]; rfl
                  have HX := Lib.hid (HK.out (.inl (by unfold neuC; rw [hlow, hup, hdig]; rfl)))
                  rw [hcl] at HL
                  clear HP HK hlow hup hdig hcl
                  generalize lastF s b k = la at *
                  obtain ⟨c, hcc⟩ : ∃ c, chS s k = c := ⟨_, rfl⟩
                  rw [hcc] at hc HL hcb
                  clear hcc hcell hf
                  go_wp2_with fail
                  refine (HL.out _).mono ?_
                  rintro e w' ⟨rfl, rfl⟩
                  go_wp2_with fail
                  go_roundw
                  case rel => exact ⟨k + 1, M, by omega, by go_num, by rw [HU.out], HX⟩
                  case measure => simp [intOf]; omega
          · obtain rfl : k = s.size := by omega
            have H2 := Lib.hid HR.out.two
            clear HR hlt hk
            generalize lastF s b s.size = la at *
            go_wp2_with fail
            go_loopw [9] (fun i wr => ∃ (f : Nat) (M : List Int), f ≤ s.size ∧ i = .int .i64 f ∧ Hid (Sv2 w wr g cp s b f M) ∧ Hid (f = 0 ∨ f = s.size ∨ neuC (chS s (f - 1)) = false ∨ neuC (chS s f) = false)) (fun i _ => s.size - (intOf i).toNat)
            case atStart => exact ⟨0, M, by omega, rfl, H2, Lib.hid (.inl rfl)⟩
            case round =>
              clear H2
              obtain ⟨f, M, hf, rfl, HR, HT⟩ := hrel
              by_cases hlt : f < s.size
              · go_wp2_with fail
                go_loop [10] (fun t => ∃ t' : Nat, f ≤ t' ∧ t' ≤ s.size ∧ t = .int .i64 t' ∧ Hid (∀ j, f ≤ j → j < t' → neuC (chS s j) = true)) (fun t => s.size - (intOf t).toNat)
                case atStart => exact ⟨f, by omega, by omega, rfl, Lib.hid (fun j h1 h2 => by omega)⟩
                case round =>
                  obtain ⟨t, ht0, ht, rfl, HRun⟩ := hrel
                  have HB : Hid (0 < f → f < t → pbF s b f = finF s b (f - 1)) := Lib.hid (fun h0 hft => by
                    have h1 : neuC (chS s (f - 1)) = false := by
                      rcases HT.out with h | h | h | h
                      · omega
                      · omega
                      · exact h
                      · rw [HRun.out f (Nat.le_refl _) hft] at h; cases h
                    rw [pbF_str h0 h1, finF_str h1])
                  by_cases hte : t < s.size
                  · have hc := chS_at s t hte
                    have hcb := chS_byte s t
                    have HN := Lib.hid (classOf_any (chS s t))
                    cases hn : neuC (chS s t) with
                    | true =>
                      have hcl : clsF (chS s t) = 0 := clsF_neu hn
                      have HY : Hid (∀ j, f ≤ j → j < t + 1 → neuC (chS s j) = true) := Lib.hid (fun j h1 h2 => by
                        by_cases e : j = t
                        · subst e; exact hn
                        · exact HRun.out j h1 (by omega))
                      rw [hcl] at HN
                      clear HRun hn hcl HB
                      generalize chS s t = c2 at *
                      go_wp2_with fail
                      refine (HN.out _).mono ?_
                      rintro e w' ⟨rfl, rfl⟩
                      go_wp2_with fail
                      go_round
                      case rel => exact ⟨t + 1, by omega, by omega, by go_num, HY⟩
                      case measure => simp [intOf]; omega
                    | false =>
                      have hcl : 1 ≤ clsF (chS s t) := clsF_str hn
                      have hcl3 := clsF_le (chS s t)
                      have HnT := Lib.hid hn
                      by_cases hft : t = f
                      · have HX := Lib.hid (HR.out.skip hlt (by rw [← hft]; exact hn))
                        have HY : Hid (f + 1 = 0 ∨ f + 1 = s.size ∨ neuC (chS s (f + 1 - 1)) = false ∨ neuC (chS s (f + 1)) = false) := Lib.hid (.inr (.inr (.inl (by rw [← hft]; exact hn))))
                        subst hft
                        clear HR HT hn HRun HB HnT
                        generalize chS s t = c2 at *
                        generalize clsF c2 = z2 at *
                        have e0 : ((z2 : Int) == 0) = false := by simp; omega
                        go_wp2_with fail
                        refine (HN.out _).mono ?_
                        rintro e w' ⟨rfl, rfl⟩
                        go_wp2_with fail
                        go_roundw
                        case rel => exact ⟨t + 1, M, by omega, by go_num, HX, HY⟩
                        case measure => simp [intOf]; omega
                      · have e4 : ((t : Int) == (f : Int)) = false := by simp; omega
                        have HFin := Lib.hid (run_fin (base := b) ht HRun.out)
                        have hPl := pbF_le s b hb1 f
                        have hQl : nbF s b t ≤ 2 := nbGo_le s b hb1 _ _
                        have c1 := HR.out.row.cell t (by omega)
                        rw [HR.out.str t ht0 (by omega) hn, ← nbF_str (by omega) hn] at c1
                        generalize nbF s b t = Q at *
                        clear hn HT
                        obtain ⟨c2, hc2⟩ : ∃ c, chS s t = c := ⟨_, rfl⟩
                        rw [hc2] at hc HN hcb hcl hcl3
                        clear hc2
                        generalize clsF c2 = z2 at *
                        have e0 : ((z2 : Int) == 0) = false := by simp; omega
                        by_cases hf0 : 0 < f
                        · have hdf : decide (0 < (f : Int)) = true := decide_eq_true (by omega)
                          have hcf : (0 : Int) < f := by omega
                          have c0 := HR.out.row.cell (f - 1) (by omega)
                          rw [HR.out.fin (f - 1) (by omega), ← HB.out hf0 (by omega)] at c0
                          have hwf : IntKind.i64.wrap ((f : Int) - 1) = (f : Int) - 1 := IntWalk.i64_in _ (by omega)
                          generalize pbF s b f = P at *
                          clear HB
                          go_wp2_with fail
                          refine (HN.out _).mono ?_
                          rintro e w' ⟨rfl, rfl⟩
                          clear HN hc hcb
                          go_wp2_with fail
                          go_loopw [13] (fun i wr' => ∃ (f' : Nat) (M' : List Int), f ≤ f' ∧ f' ≤ t ∧ i = .int .i64 f' ∧ Hid (Sv2 w wr' g cp s b f' M')) (fun i _ => t - (intOf i).toNat)
                          case atStart => exact ⟨f, M, by omega, by omega, rfl, HR⟩
                          case round =>
                            clear HR
                            obtain ⟨f', M', hf1, hf2, rfl, HR⟩ := hrel
                            by_cases hlt2 : f' < t
                            · have hfr := HR.out.row.free f'
                              have hce := HR.out.row.cell f' (by omega)
                              have HX : Hid ((P % 2 = Q % 2 ∧ P % 2 ≠ b % 2) → b = 1 → Sv2 w (((wr.setCell ⟨g, f', none⟩ (.int .i64 b)).setCell ⟨g, f', none⟩ (.int .i64 (1 - b))).setCell ⟨g, f', none⟩ (.int .i64 2)) g cp s b (f' + 1) (((M'.set f' b).set f' (1 - b)).set f' 2)) := Lib.hid (fun h1 h2 => by
                                refine (((HR.out.smear (by omega) (HRun.out f' hf1 hlt2) _).smear (by omega) (HRun.out f' hf1 hlt2) _).put (by omega) _ ?_)
                                rw [HFin.out f' hf1 hlt2, neut_is P Q b hPl hQl hb1, if_pos h1, if_pos h2]; rfl)
                              have HY : Hid ((P % 2 = Q % 2 ∧ P % 2 ≠ b % 2) → b = 0 → Sv2 w ((wr.setCell ⟨g, f', none⟩ (.int .i64 b)).setCell ⟨g, f', none⟩ (.int .i64 (1 - b))) g cp s b (f' + 1) ((M'.set f' b).set f' (1 - b))) := Lib.hid (fun h1 h2 => by
                                refine ((HR.out.smear (by omega) (HRun.out f' hf1 hlt2) _).put (by omega) _ ?_)
                                rw [HFin.out f' hf1 hlt2, neut_is P Q b hPl hQl hb1, if_pos h1, if_neg (by omega)]; omega)
                              have HZ : Hid (¬ (P % 2 = Q % 2 ∧ P % 2 ≠ b % 2) → Sv2 w (wr.setCell ⟨g, f', none⟩ (.int .i64 b)) g cp s b (f' + 1) (M'.set f' b)) := Lib.hid (fun h1 => by
                                refine (HR.out.put (by omega) _ ?_)
                                rw [HFin.out f' hf1 hlt2, neut_is P Q b hPl hQl hb1, if_neg h1])
                              generalize M'.getD f' 0 = z at *
                              have hwb : IntKind.i64.wrap (1 - (b : Int)) = 1 - (b : Int) := IntWalk.i64_in _ (by omega)
                              by_cases h1 : P % 2 = Q % 2
                              · have e1 : ((P : Int) % 2 == (Q : Int) % 2) = true := by simp <;> omega
                                by_cases h2 : P % 2 = b % 2
                                · have e2 : ((P : Int) % 2 != (b : Int) % 2) = false := by simp <;> omega
                                  have HX := Lib.hid (HZ.out (by omega))
                                  go_wp2_with fail
                                  go_roundw
                                  case rel => exact ⟨f' + 1, _, by omega, by omega, by go_num, HX⟩
                                  case measure => simp [intOf]; omega
                                all_goals first
                                  | (exfalso; omega)
                                  | skip
                                all_goals
                                  have e2 : ((P : Int) % 2 != (b : Int) % 2) = true := by simp <;> omega
                                  by_cases h3 : b = 1
                                  · have HX := Lib.hid (HX.out ⟨h1, h2⟩ h3)
                                    subst h3
                                    go_wp2_with fail
                                    go_roundw
                                    case rel => exact ⟨f' + 1, _, by omega, by omega, by go_num, HX⟩
                                    case measure => simp [intOf]; omega
                                  · have HX := Lib.hid (HY.out ⟨h1, h2⟩ (by omega))
                                    have e3 : ((b : Int) == 1) = false := by simp <;> omega
                                    go_wp2_with fail
                                    go_roundw
                                    case rel => exact ⟨f' + 1, _, by omega, by omega, by go_num, HX⟩
                                    case measure => simp [intOf]; omega
                              all_goals first
                                | (exfalso; omega)
                                | skip
                              all_goals
                                have e1 : ((P : Int) % 2 == (Q : Int) % 2) = false := by simp <;> omega
                                have HX := Lib.hid (HZ.out (by omega))
                                go_wp2_with fail
                                go_roundw
                                case rel => exact ⟨f' + 1, _, by omega, by omega, by go_num, HX⟩
                                case measure => simp [intOf]; omega
                            · obtain rfl : f' = t := by omega
                              go_wp2_with fail
                              go_roundw
                              case rel => exact ⟨f', M', by omega, by go_num, HR, Lib.hid (.inr (.inr (.inr HnT.out)))⟩
                              case measure => simp [intOf]; omega
                        · have eP : pbF s b f = b := by rw [show f = 0 by omega]; rfl
                          rw [eP] at HFin hPl
                          clear HB eP
                          go_wp2_with fail
                          refine (HN.out _).mono ?_
                          rintro e w' ⟨rfl, rfl⟩
                          clear HN hc hcb
                          go_wp2_with fail
                          go_loopw [13] (fun i wr' => ∃ (f' : Nat) (M' : List Int), f ≤ f' ∧ f' ≤ t ∧ i = .int .i64 f' ∧ Hid (Sv2 w wr' g cp s b f' M')) (fun i _ => t - (intOf i).toNat)
                          case atStart => exact ⟨f, M, by omega, by omega, rfl, HR⟩
                          case round =>
                            clear HR
                            obtain ⟨f', M', hf1, hf2, rfl, HR⟩ := hrel
                            by_cases hlt2 : f' < t
                            · have hfr := HR.out.row.free f'
                              have hce := HR.out.row.cell f' (by omega)
                              have HX : Hid ((b % 2 = Q % 2 ∧ b % 2 ≠ b % 2) → b = 1 → Sv2 w (((wr.setCell ⟨g, f', none⟩ (.int .i64 b)).setCell ⟨g, f', none⟩ (.int .i64 (1 - b))).setCell ⟨g, f', none⟩ (.int .i64 2)) g cp s b (f' + 1) (((M'.set f' b).set f' (1 - b)).set f' 2)) := Lib.hid (fun h1 h2 => by
                                refine (((HR.out.smear (by omega) (HRun.out f' hf1 hlt2) _).smear (by omega) (HRun.out f' hf1 hlt2) _).put (by omega) _ ?_)
                                rw [HFin.out f' hf1 hlt2, neut_is b Q b hPl hQl hb1, if_pos h1, if_pos h2]; rfl)
                              have HY : Hid ((b % 2 = Q % 2 ∧ b % 2 ≠ b % 2) → b = 0 → Sv2 w ((wr.setCell ⟨g, f', none⟩ (.int .i64 b)).setCell ⟨g, f', none⟩ (.int .i64 (1 - b))) g cp s b (f' + 1) ((M'.set f' b).set f' (1 - b))) := Lib.hid (fun h1 h2 => by
                                refine ((HR.out.smear (by omega) (HRun.out f' hf1 hlt2) _).put (by omega) _ ?_)
                                rw [HFin.out f' hf1 hlt2, neut_is b Q b hPl hQl hb1, if_pos h1, if_neg (by omega)]; omega)
                              have HZ : Hid (¬ (b % 2 = Q % 2 ∧ b % 2 ≠ b % 2) → Sv2 w (wr.setCell ⟨g, f', none⟩ (.int .i64 b)) g cp s b (f' + 1) (M'.set f' b)) := Lib.hid (fun h1 => by
                                refine (HR.out.put (by omega) _ ?_)
                                rw [HFin.out f' hf1 hlt2, neut_is b Q b hPl hQl hb1, if_neg h1])
                              generalize M'.getD f' 0 = z at *
                              have hwb : IntKind.i64.wrap (1 - (b : Int)) = 1 - (b : Int) := IntWalk.i64_in _ (by omega)
                              by_cases h1 : b % 2 = Q % 2
                              · have e1 : ((b : Int) % 2 == (Q : Int) % 2) = true := by simp <;> omega
                                by_cases h2 : b % 2 = b % 2
                                · have e2 : ((b : Int) % 2 != (b : Int) % 2) = false := by simp <;> omega
                                  have HX := Lib.hid (HZ.out (by omega))
                                  go_wp2_with fail
                                  go_roundw
                                  case rel => exact ⟨f' + 1, _, by omega, by omega, by go_num, HX⟩
                                  case measure => simp [intOf]; omega
                                all_goals first
                                  | (exfalso; omega)
                                  | skip
                                all_goals
                                  have e2 : ((b : Int) % 2 != (b : Int) % 2) = true := by simp <;> omega
                                  by_cases h3 : b = 1
                                  · have HX := Lib.hid (HX.out ⟨h1, h2⟩ h3)
                                    subst h3
                                    go_wp2_with fail
                                    go_roundw
                                    case rel => exact ⟨f' + 1, _, by omega, by omega, by go_num, HX⟩
                                    case measure => simp [intOf]; omega
                                  · have HX := Lib.hid (HY.out ⟨h1, h2⟩ (by omega))
                                    have e3 : ((b : Int) == 1) = false := by simp <;> omega
                                    go_wp2_with fail
                                    go_roundw
                                    case rel => exact ⟨f' + 1, _, by omega, by omega, by go_num, HX⟩
                                    case measure => simp [intOf]; omega
                              all_goals first
                                | (exfalso; omega)
                                | skip
                              all_goals
                                have e1 : ((b : Int) % 2 == (Q : Int) % 2) = false := by simp <;> omega
                                have HX := Lib.hid (HZ.out (by omega))
                                go_wp2_with fail
                                go_roundw
                                case rel => exact ⟨f' + 1, _, by omega, by omega, by go_num, HX⟩
                                case measure => simp [intOf]; omega
                            · obtain rfl : f' = t := by omega
                              go_wp2_with fail
                              go_roundw
                              case rel => exact ⟨f', M', by omega, by go_num, HR, Lib.hid (.inr (.inr (.inr HnT.out)))⟩
                              case measure => simp [intOf]; omega
                  · have e4 : ((t : Int) == (f : Int)) = false := by simp; omega
                    have eQ : nbF s b t = b := by rw [show t = s.size by omega]; exact nbF_end s b
                    have HFin := Lib.hid (run_fin (base := b) ht HRun.out)
                    have hPl := pbF_le s b hb1 f
                    have hQl : nbF s b t ≤ 2 := nbGo_le s b hb1 _ _
                    rw [eQ] at HFin hQl
                    clear HT eQ
                    by_cases hf0 : 0 < f
                    · have hdf : decide (0 < (f : Int)) = true := decide_eq_true (by omega)
                      have hcf : (0 : Int) < f := by omega
                      have c0 := HR.out.row.cell (f - 1) (by omega)
                      rw [HR.out.fin (f - 1) (by omega), ← HB.out hf0 (by omega)] at c0
                      have hwf : IntKind.i64.wrap ((f : Int) - 1) = (f : Int) - 1 := IntWalk.i64_in _ (by omega)
                      generalize pbF s b f = P at *
                      clear HB
                      go_wp2_with fail
                      go_loopw [13] (fun i wr' => ∃ (f' : Nat) (M' : List Int), f ≤ f' ∧ f' ≤ t ∧ i = .int .i64 f' ∧ Hid (Sv2 w wr' g cp s b f' M')) (fun i _ => t - (intOf i).toNat)
                      case atStart => exact ⟨f, M, by omega, by omega, rfl, HR⟩
                      case round =>
                        clear HR
                        obtain ⟨f', M', hf1, hf2, rfl, HR⟩ := hrel
                        by_cases hlt2 : f' < t
                        · have hfr := HR.out.row.free f'
                          have hce := HR.out.row.cell f' (by omega)
                          have HX : Hid ((P % 2 = b % 2 ∧ P % 2 ≠ b % 2) → b = 1 → Sv2 w (((wr.setCell ⟨g, f', none⟩ (.int .i64 b)).setCell ⟨g, f', none⟩ (.int .i64 (1 - b))).setCell ⟨g, f', none⟩ (.int .i64 2)) g cp s b (f' + 1) (((M'.set f' b).set f' (1 - b)).set f' 2)) := Lib.hid (fun h1 h2 => by
                            refine (((HR.out.smear (by omega) (HRun.out f' hf1 hlt2) _).smear (by omega) (HRun.out f' hf1 hlt2) _).put (by omega) _ ?_)
                            rw [HFin.out f' hf1 hlt2, neut_is P b b hPl hQl hb1, if_pos h1, if_pos h2]; rfl)
                          have HY : Hid ((P % 2 = b % 2 ∧ P % 2 ≠ b % 2) → b = 0 → Sv2 w ((wr.setCell ⟨g, f', none⟩ (.int .i64 b)).setCell ⟨g, f', none⟩ (.int .i64 (1 - b))) g cp s b (f' + 1) ((M'.set f' b).set f' (1 - b))) := Lib.hid (fun h1 h2 => by
                            refine ((HR.out.smear (by omega) (HRun.out f' hf1 hlt2) _).put (by omega) _ ?_)
                            rw [HFin.out f' hf1 hlt2, neut_is P b b hPl hQl hb1, if_pos h1, if_neg (by omega)]; omega)
                          have HZ : Hid (¬ (P % 2 = b % 2 ∧ P % 2 ≠ b % 2) → Sv2 w (wr.setCell ⟨g, f', none⟩ (.int .i64 b)) g cp s b (f' + 1) (M'.set f' b)) := Lib.hid (fun h1 => by
                            refine (HR.out.put (by omega) _ ?_)
                            rw [HFin.out f' hf1 hlt2, neut_is P b b hPl hQl hb1, if_neg h1])
                          generalize M'.getD f' 0 = z at *
                          have hwb : IntKind.i64.wrap (1 - (b : Int)) = 1 - (b : Int) := IntWalk.i64_in _ (by omega)
                          by_cases h1 : P % 2 = b % 2
                          · have e1 : ((P : Int) % 2 == (b : Int) % 2) = true := by simp <;> omega
                            by_cases h2 : P % 2 = b % 2
                            · have e2 : ((P : Int) % 2 != (b : Int) % 2) = false := by simp <;> omega
                              have HX := Lib.hid (HZ.out (by omega))
                              go_wp2_with fail
                              go_roundw
                              case rel => exact ⟨f' + 1, _, by omega, by omega, by go_num, HX⟩
                              case measure => simp [intOf]; omega
                            all_goals first
                              | (exfalso; omega)
                              | skip
                            all_goals
                              have e2 : ((P : Int) % 2 != (b : Int) % 2) = true := by simp <;> omega
                              by_cases h3 : b = 1
                              · have HX := Lib.hid (HX.out ⟨h1, h2⟩ h3)
                                subst h3
                                go_wp2_with fail
                                go_roundw
                                case rel => exact ⟨f' + 1, _, by omega, by omega, by go_num, HX⟩
                                case measure => simp [intOf]; omega
                              · have HX := Lib.hid (HY.out ⟨h1, h2⟩ (by omega))
                                have e3 : ((b : Int) == 1) = false := by simp <;> omega
                                go_wp2_with fail
                                go_roundw
                                case rel => exact ⟨f' + 1, _, by omega, by omega, by go_num, HX⟩
                                case measure => simp [intOf]; omega
                          all_goals first
                            | (exfalso; omega)
                            | skip
                          all_goals
                            have e1 : ((P : Int) % 2 == (b : Int) % 2) = false := by simp <;> omega
                            have HX := Lib.hid (HZ.out (by omega))
                            go_wp2_with fail
                            go_roundw
                            case rel => exact ⟨f' + 1, _, by omega, by omega, by go_num, HX⟩
                            case measure => simp [intOf]; omega
                        · obtain rfl : f' = t := by omega
                          go_wp2_with fail
                          go_roundw
                          case rel => exact ⟨f', M', by omega, by go_num, HR, Lib.hid (.inr (.inl (by omega)))⟩
                          case measure => simp [intOf]; omega
                    · have eP : pbF s b f = b := by rw [show f = 0 by omega]; rfl
                      rw [eP] at HFin hPl
                      clear HB eP
                      go_wp2_with fail
                      go_loopw [13] (fun i wr' => ∃ (f' : Nat) (M' : List Int), f ≤ f' ∧ f' ≤ t ∧ i = .int .i64 f' ∧ Hid (Sv2 w wr' g cp s b f' M')) (fun i _ => t - (intOf i).toNat)
                      case atStart => exact ⟨f, M, by omega, by omega, rfl, HR⟩
                      case round =>
                        clear HR
                        obtain ⟨f', M', hf1, hf2, rfl, HR⟩ := hrel
                        by_cases hlt2 : f' < t
                        · have hfr := HR.out.row.free f'
                          have hce := HR.out.row.cell f' (by omega)
                          have HX : Hid ((b % 2 = b % 2 ∧ b % 2 ≠ b % 2) → b = 1 → Sv2 w (((wr.setCell ⟨g, f', none⟩ (.int .i64 b)).setCell ⟨g, f', none⟩ (.int .i64 (1 - b))).setCell ⟨g, f', none⟩ (.int .i64 2)) g cp s b (f' + 1) (((M'.set f' b).set f' (1 - b)).set f' 2)) := Lib.hid (fun h1 h2 => by
                            refine (((HR.out.smear (by omega) (HRun.out f' hf1 hlt2) _).smear (by omega) (HRun.out f' hf1 hlt2) _).put (by omega) _ ?_)
                            rw [HFin.out f' hf1 hlt2, neut_is b b b hPl hQl hb1, if_pos h1, if_pos h2]; rfl)
                          have HY : Hid ((b % 2 = b % 2 ∧ b % 2 ≠ b % 2) → b = 0 → Sv2 w ((wr.setCell ⟨g, f', none⟩ (.int .i64 b)).setCell ⟨g, f', none⟩ (.int .i64 (1 - b))) g cp s b (f' + 1) ((M'.set f' b).set f' (1 - b))) := Lib.hid (fun h1 h2 => by
                            refine ((HR.out.smear (by omega) (HRun.out f' hf1 hlt2) _).put (by omega) _ ?_)
                            rw [HFin.out f' hf1 hlt2, neut_is b b b hPl hQl hb1, if_pos h1, if_neg (by omega)]; omega)
                          have HZ : Hid (¬ (b % 2 = b % 2 ∧ b % 2 ≠ b % 2) → Sv2 w (wr.setCell ⟨g, f', none⟩ (.int .i64 b)) g cp s b (f' + 1) (M'.set f' b)) := Lib.hid (fun h1 => by
                            refine (HR.out.put (by omega) _ ?_)
                            rw [HFin.out f' hf1 hlt2, neut_is b b b hPl hQl hb1, if_neg h1])
                          generalize M'.getD f' 0 = z at *
                          have hwb : IntKind.i64.wrap (1 - (b : Int)) = 1 - (b : Int) := IntWalk.i64_in _ (by omega)
                          by_cases h1 : b % 2 = b % 2
                          · have e1 : ((b : Int) % 2 == (b : Int) % 2) = true := by simp <;> omega
                            by_cases h2 : b % 2 = b % 2
                            · have e2 : ((b : Int) % 2 != (b : Int) % 2) = false := by simp <;> omega
                              have HX := Lib.hid (HZ.out (by omega))
                              go_wp2_with fail
                              go_roundw
                              case rel => exact ⟨f' + 1, _, by omega, by omega, by go_num, HX⟩
                              case measure => simp [intOf]; omega
                            all_goals first
                              | (exfalso; omega)
                              | skip
                            all_goals
                              have e2 : ((b : Int) % 2 != (b : Int) % 2) = true := by simp <;> omega
                              by_cases h3 : b = 1
                              · have HX := Lib.hid (HX.out ⟨h1, h2⟩ h3)
                                subst h3
                                go_wp2_with fail
                                go_roundw
                                case rel => exact ⟨f' + 1, _, by omega, by omega, by go_num, HX⟩
                                case measure => simp [intOf]; omega
                              · have HX := Lib.hid (HY.out ⟨h1, h2⟩ (by omega))
                                have e3 : ((b : Int) == 1) = false := by simp <;> omega
                                go_wp2_with fail
                                go_roundw
                                case rel => exact ⟨f' + 1, _, by omega, by omega, by go_num, HX⟩
                                case measure => simp [intOf]; omega
                          all_goals first
                            | (exfalso; omega)
                            | skip
                          all_goals
                            have e1 : ((b : Int) % 2 == (b : Int) % 2) = false := by simp <;> omega
                            have HX := Lib.hid (HZ.out (by omega))
                            go_wp2_with fail
                            go_roundw
                            case rel => exact ⟨f' + 1, _, by omega, by omega, by go_num, HX⟩
                            case measure => simp [intOf]; omega
                        · obtain rfl : f' = t := by omega
                          go_wp2_with fail
                          go_roundw
                          case rel => exact ⟨f', M', by omega, by go_num, HR, Lib.hid (.inr (.inl (by omega)))⟩
                          case measure => simp [intOf]; omega
              · obtain rfl : f = s.size := by omega
                have hM := HR.out.out HOk.out hb1
                go_wp2_with fail
                go_ret
                rw [← hM]
                exact ⟨_, rfl, ⟨by rw [HR.out.row.len]; exact HR.out.row.row, fun g' hg => by simp [Value.ownBlock] at hg; have := (HR.out.row.row.lt g rfl).2; omega, Nat.le_refl _⟩, HR.out.row.below⟩
end Go.Proofs.Ytbecdndeddkibaa

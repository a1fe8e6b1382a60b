/- The program's LevelsOf gives levS. -/
import Derived.Test.YtbecdndeddkibaaLevCls
import Derived.Test.YtbecdndeddkibaaInverse
namespace Go.Proofs.Ytbecdndeddkibaa
open Go.RowKit
set_option maxHeartbeats 2000000
set_option maxRecDepth 100000
set_option linter.unusedVariables false

structure LvRow (w wr : World) (n : Nat) (M : List Int) : Prop where
  len : M.length = n
  row : wr.ownsRow w.heap.size 3 1 (.slice (some ⟨w.heap.size, 0, none⟩) n n) n (M.map (Value.int .i64))
  below : Below w.heap.size w wr
theorem LvRow.cell {w wr : World} {n : Nat} {M : List Int} (h : LvRow w wr n M) (j : Nat) (hj : j < n) : wr.cell? ⟨w.heap.size, j, none⟩ = some (.int .i64 (M.getD j 0)) := by
  have hl := h.len
  rw [h.row.cellAt j (by omega)]
  simp [List.getD_eq_getElem?_getD, hl, hj]
theorem LvRow.free {w wr : World} {n : Nat} {M : List Int} (h : LvRow w wr n M) (j : Nat) : wr.frozen? ⟨w.heap.size, j, none⟩ = false := h.row.frozenAt j
theorem LvRow.set {w wr : World} {n : Nat} {M : List Int} (h : LvRow w wr n M) (j : Nat) (x : Int) : LvRow w (wr.setCell ⟨w.heap.size, j, none⟩ (.int .i64 x)) n (M.set j x) :=
  ⟨by simpa using h.len, by have := (h.row.stored j (.int .i64 x)).1; simpa [List.map_set] using this, h.below.setCell (Nat.le_refl _) _⟩
theorem getD_setI (M : List Int) (k j : Nat) (x : Int) (hk : k < M.length) : (M.set k x).getD j 0 = if j = k then x else M.getD j 0 := by
  by_cases e : j = k
  · subst e; simp [List.getD_eq_getElem?_getD, hk]
  · rw [if_neg e, List.getD_eq_getElem?_getD, List.getElem?_set_ne (by omega), ← List.getD_eq_getElem?_getD]

/-- The first loop: letters and digits before k have their levels. -/
structure Lv1 (w wr : World) (s : ByteArray) (b k : Nat) (M : List Int) : Prop where
  row : LvRow w wr s.size M
  done : ∀ j, j < k → neuC (chS s j) = false → M.getD j 0 = (strF s b j : Int)
  rest : ∀ j, k ≤ j → M.getD j 0 = 0
theorem Lv1.put {w wr : World} {s : ByteArray} {b k : Nat} {M : List Int} (h : Lv1 w wr s b k M) (hk : k < s.size) (x : Int) (hx : x = (strF s b k : Int)) : Lv1 w (wr.setCell ⟨w.heap.size, k, none⟩ (.int .i64 x)) s b (k + 1) (M.set k x) := by
  have hl := h.row.len
  refine ⟨h.row.set k x, fun j hj hn => ?_, fun j hj => ?_⟩
  · rw [getD_setI _ _ _ _ (by omega)]
    by_cases e : j = k
    · rw [if_pos e, e, hx]
    · rw [if_neg e]; exact h.done j (by omega) hn
  · rw [getD_setI _ _ _ _ (by omega), if_neg (by omega)]; exact h.rest j (by omega)
theorem Lv1.skip {w wr : World} {s : ByteArray} {b k : Nat} {M : List Int} (h : Lv1 w wr s b k M) (hx : neuC (chS s k) = true ∨ strF s b k = 0) : Lv1 w wr s b (k + 1) M := by
  refine ⟨h.row, fun j hj hn => ?_, fun j hj => h.rest j (by omega)⟩
  by_cases e : j = k
  · subst e
    rcases hx with hx | hx
    · rw [hx] at hn; cases hn
    · rw [hx, h.rest j (Nat.le_refl _)]; rfl
  · exact h.done j (by omega) hn
/-- The second loop: all before f have their levels, letters and digits behind it too. -/
structure Lv2 (w wr : World) (s : ByteArray) (b f : Nat) (M : List Int) : Prop where
  row : LvRow w wr s.size M
  fin : ∀ j, j < f → M.getD j 0 = (finF s b j : Int)
  str : ∀ j, f ≤ j → j < s.size → neuC (chS s j) = false → M.getD j 0 = (strF s b j : Int)
theorem Lv1.two {w wr : World} {s : ByteArray} {b : Nat} {M : List Int} (h : Lv1 w wr s b s.size M) : Lv2 w wr s b 0 M :=
  ⟨h.row, fun j hj => by omega, fun j _ hj hn => h.done j hj hn⟩
theorem Lv2.skip {w wr : World} {s : ByteArray} {b f : Nat} {M : List Int} (h : Lv2 w wr s b f M) (hf : f < s.size) (hn : neuC (chS s f) = false) : Lv2 w wr s b (f + 1) M :=
  ⟨h.row, fun j hj => by
    by_cases e : j = f
    · subst e; rw [h.str j (Nat.le_refl _) hf hn, finF_str hn]
    · exact h.fin j (by omega), fun j h1 h2 h3 => h.str j (by omega) h2 h3⟩
theorem Lv2.put {w wr : World} {s : ByteArray} {b f : Nat} {M : List Int} (h : Lv2 w wr s b f M) (hf : f < s.size) (x : Int) (hx : x = (finF s b f : Int)) : Lv2 w (wr.setCell ⟨w.heap.size, f, none⟩ (.int .i64 x)) s b (f + 1) (M.set f x) := by
  have hl := h.row.len
  refine ⟨h.row.set f x, fun j hj => ?_, fun j h1 h2 h3 => ?_⟩
  · rw [getD_setI _ _ _ _ (by omega)]
    by_cases e : j = f
    · rw [if_pos e, e, hx]
    · rw [if_neg e]; exact h.fin j (by omega)
  · rw [getD_setI _ _ _ _ (by omega), if_neg (by omega)]; exact h.str j (by omega) h2 h3
theorem Lv2.out {w wr : World} {s : ByteArray} {b : Nat} {M : List Int} (h : Lv2 w wr s b s.size M) (hok : okT s = true) (hb : b ≤ 1) : M = levS s (b : Int) := levS_is hok hb h.row.len h.fin
theorem pbF_le (s : ByteArray) (base : Nat) (hb : base ≤ 1) : ∀ k, pbF s base k ≤ 2
  | 0 => by rw [pbF]; omega
  | k + 1 => by rw [pbF]; split <;> first | exact pbF_le s base hb k | exact strF_le s base k hb
theorem nbGo_le (s : ByteArray) (base : Nat) (hb : base ≤ 1) : ∀ d k, nbGo s base d k ≤ 2
  | 0, k => by rw [nbGo]; omega
  | d + 1, k => by rw [nbGo]; split <;> first | exact nbGo_le s base hb d (k + 1) | exact strF_le s base k hb
theorem levS_no {s : ByteArray} {base : Int} (h : ¬ (okT s = true ∧ 0 ≤ base ∧ base ≤ 1)) : levS s base = [] := by unfold levS; rw [if_neg h]

theorem levelsOf_any (s : ByteArray) (base : Int) (w : World) (hs : s.size ≤ maxLen) :
    Calls Try.prog 21 #[.string s, .int .i64 base] w (GaveI (levS s base) w) := by
  have HV := Lib.hid (fun w' => validText_any s w' hs)
  unfold maxLen at hs
  cases hok : okT s with
  | false =>
    rw [levS_no (by rw [hok]; simp)]
    rw [hok] at HV
    clear hok
    go_enter Try.func21, Try.ntmps21
    go_wp2_with fail
    refine (HV.out _).mono ?_
    rintro e w' ⟨rfl, rfl⟩
    go_wp2_with fail
    go_ret
    exact ⟨_, rfl, own_nil _ _ _ (Nat.le_refl _), Below.refl _ _⟩
  | true =>
    have h60 := okT_le hok
    by_cases hb : 0 ≤ base ∧ base ≤ 1
    · obtain ⟨b, rfl⟩ : ∃ b : Nat, base = b := ⟨base.toNat, by omega⟩
      have hb1 : b ≤ 1 := by omega
      rw [hok] at HV
      obtain ⟨i0, hi, hz0, hz1, hz2⟩ := info_parts intInfo
      obtain ⟨w1, hmk, hown, hgrow⟩ := run_make_full (P := Try.prog) w w.heap.size 22 3 i0 (.int .i64 0) 1 Try.underlying22 hi hz0 hz1 .i64 .i64 s.size (by rw [hz2]; omega) (by unfold maxLen; omega) (Nat.le_refl _)
      have hbe : Below w.heap.size w w1 := (Below.refl _ _).grown hgrow (Nat.le_refl _) (fun k hk => by simp at hk)
      have e0 : (madeCells (Value.int .i64 0).cells (s.size * 1)).toList = (List.replicate s.size 0).map (Value.int .i64) := by
        show (madeCells #[Value.int .i64 0] _).toList = _
        rw [toList_madeCells_one]; simp
      rw [e0] at hown
      have H1 : Hid (Lv1 w w1 s b 0 (List.replicate s.size 0)) := Lib.hid ⟨⟨by simp, hown, hbe⟩, fun j hj => by omega, fun j hj => by
        rw [List.getD_eq_getElem?_getD]
        by_cases e : j < s.size
        · rw [List.getElem?_replicate, if_pos e]; rfl
        · rw [List.getElem?_eq_none (by simp; omega)]; rfl⟩
      have HO := Lib.hid hok
      have hd : decide ((b : Int) ≤ 1) = true := decide_eq_true hb.2
      clear hi hz0 hz1 hz2 hgrow e0 hown hbe hok hb
      go_enter Try.func21, Try.ntmps21
      go_wp2_with fail
      refine (HV.out _).mono ?_
      rintro e w' ⟨rfl, rfl⟩
      go_wp2_with (go_at_call 24; refine (within_any _ _ _ _).mono ?_; rintro e w' ⟨rfl, rfl⟩)
      clear HV hd
      go_loopw [6, 26] (fun u i wr => ∃ (k : Nat) (M : List Int), k ≤ s.size ∧ i = .int .i64 k ∧ u = .bool (upF s k) ∧ Hid (Lv1 w wr s b k M)) (fun _ i _ => s.size - (intOf i).toNat)
      case atStart => exact ⟨0, _, by omega, rfl, rfl, H1⟩
      case round =>
        clear H1 hmk
        obtain ⟨k, M, hk, rfl, rfl, HR⟩ := hrel
        by_cases hlt : k < s.size
        · have hc := chS_at s k hlt
          have HL := Lib.hid (fun w' => isLower_any (chS s k) w')
          have HP := Lib.hid (fun x hx => HR.out.put hlt x hx)
          have HK := Lib.hid (fun hx => HR.out.skip hx)
          have hf := HR.out.row.free k
          have hcell := HR.out.row.cell k hlt
          generalize M.getD k 0 = z at *
          have hcb := chS_byte s k
          cases hlow : lowC (chS s k) with
          | true =>
            have HU := Lib.hid (upF_low hlow)
            have HX := Lib.hid (HP.out (2 * (b : Int)) (by rw [strF_low hlow]; push_cast; rfl))
            rw [hlow] at HL
            clear HP HK hlow
            generalize chS s k = c at *
            go_wp2_with fail
            refine (HL.out _).mono ?_
            rintro e w' ⟨rfl, rfl⟩
            go_wp2_with fail
            go_roundw
            case rel => exact ⟨k + 1, _, by omega, by go_num, by rw [HU.out], HX⟩
            case measure => simp [intOf]; omega
          | false =>
            rw [hlow] at HL
            have g1 : (65 : Int) ≤ (chS s k : Nat) ↔ 65 ≤ chS s k := by omega
            have g2 : ((chS s k : Nat) : Int) ≤ 90 ↔ chS s k ≤ 90 := by omega
            have g3 : (48 : Int) ≤ (chS s k : Nat) ↔ 48 ≤ chS s k := by omega
            have g4 : ((chS s k : Nat) : Int) ≤ 57 ↔ chS s k ≤ 57 := by omega
            by_cases hup : 65 ≤ chS s k ∧ chS s k ≤ 90
            · have hupc : upC (chS s k) = true := by unfold upC; rw [decide_eq_true hup.1, decide_eq_true hup.2]; rfl
              have HU := Lib.hid (upF_up hlow hupc)
              have HX := Lib.hid (HP.out 1 (by rw [strF_up hlow hupc]; rfl))
              obtain ⟨h1, h2⟩ := hup
              clear HP HK hlow hupc
              generalize chS s k = c at *
              go_wp2_with fail
              refine (HL.out _).mono ?_
              rintro e w' ⟨rfl, rfl⟩
              go_wp2_with fail
              go_roundw
              case rel => exact ⟨k + 1, _, by omega, by go_num, by rw [HU.out], HX⟩
              case measure => simp [intOf]; omega
            · have hupc : upC (chS s k) = false := by
                unfold upC
                rw [Bool.and_eq_false_iff, decide_eq_false_iff_not, decide_eq_false_iff_not]; omega
              have HU := Lib.hid (upF_else hlow hupc)
              by_cases hdig : 48 ≤ chS s k ∧ chS s k ≤ 57
              · have HS := Lib.hid (strF_dig (base := b) hlow hupc)
                obtain ⟨h3, h4⟩ := hdig
                have h1 : ¬ 65 ≤ chS s k := by omega
                by_cases hb : b = 1
                · have HX := Lib.hid (HP.out 2 (by rw [HS.out, if_pos (.inl hb)]; rfl))
                  have e1 : ((b : Int) == 1) = true := by rw [hb]; rfl
                  clear HP HK hlow hupc HS hup hb
                  generalize chS s k = c at *
                  go_wp2_with fail
                  refine (HL.out _).mono ?_
                  rintro e w' ⟨rfl, rfl⟩
                  go_wp2_with fail
                  go_roundw
                  case rel => exact ⟨k + 1, _, by omega, by go_num, by rw [HU.out], HX⟩
                  case measure => simp [intOf]; omega
                · have e1 : ((b : Int) == 1) = false := by simp; omega
                  cases hu : upF s k with
                  | true =>
                    have HX := Lib.hid (HP.out 2 (by rw [HS.out, if_pos (.inr hu)]; rfl))
                    rw [hu] at HU
                    clear HP HK hlow hupc HS hup hu hb
                    generalize chS s k = c at *
                    go_wp2_with fail
                    refine (HL.out _).mono ?_
                    rintro e w' ⟨rfl, rfl⟩
                    go_wp2_with fail
                    go_roundw
                    case rel => exact ⟨k + 1, _, by omega, by go_num, by rw [HU.out], HX⟩
                    case measure => simp [intOf]; omega
                  | false =>
                    have HX := Lib.hid (HK.out (.inr (by rw [HS.out, if_neg (by rw [hu]; simp; exact hb)])))
                    rw [hu] at HU
                    clear HP HK hlow hupc HS hup hu hb
                    generalize chS s k = c at *
                    go_wp2_with fail
                    refine (HL.out _).mono ?_
                    rintro e w' ⟨rfl, rfl⟩
                    go_wp2_with fail
                    go_roundw
                    case rel => exact ⟨k + 1, _, by omega, by go_num, by rw [HU.out], HX⟩
                    case measure => simp [intOf]; omega
              · have hdc : digC (chS s k) = false := by
                  unfold digC
                  rw [Bool.and_eq_false_iff, decide_eq_false_iff_not, decide_eq_false_iff_not]; omega
                have HX := Lib.hid (HK.out (.inl (by unfold neuC; rw [hlow, hupc, hdc]; rfl)))
                clear HP HK hlow hupc hdc
                generalize chS s k = c at *
                rcases (show c < 48 ∨ (57 < c ∧ c < 65) ∨ 90 < c by omega) with h | h | h
                all_goals
                  by_cases h1 : 65 ≤ c <;> by_cases h2 : c ≤ 90 <;> by_cases h3 : 48 ≤ c <;> by_cases h4 : c ≤ 57
                  all_goals first
                    | (exfalso; omega)
                    | skip
                  all_goals
                    go_wp2_with fail
                    refine (HL.out _).mono ?_
                    rintro e w' ⟨rfl, rfl⟩
                    go_wp2_with fail
                    go_roundw
                    case rel => exact ⟨k + 1, _, by omega, by go_num, by rw [HU.out], HX⟩
                    case measure => simp [intOf]; omega
        · obtain rfl : k = s.size := by omega
          have H2 := Lib.hid HR.out.two
          clear HR
          go_wp2_with fail
          go_loopw [9] (fun i wr => ∃ (f : Nat) (M : List Int), f ≤ s.size ∧ i = .int .i64 f ∧ Hid (Lv2 w wr s b f M) ∧ Hid (f = 0 ∨ f = s.size ∨ neuC (chS s (f - 1)) = false ∨ neuC (chS s f) = false)) (fun i _ => s.size - (intOf i).toNat)
          case atStart => exact ⟨0, M, by omega, rfl, H2, Lib.hid (.inl rfl)⟩
          case round =>
            clear H2 hlt hk
            obtain ⟨f, M, hf, rfl, HR, HT⟩ := hrel
            by_cases hlt : f < s.size
            · have hc := chS_at s f hlt
              have HN := Lib.hid (fun w' => isNeutral_any (chS s f) w')
              have hcb := chS_byte s f
              cases hn : neuC (chS s f) with
              | false =>
                have HX := Lib.hid (HR.out.skip hlt hn)
                have HY : Hid (f + 1 = 0 ∨ f + 1 = s.size ∨ neuC (chS s (f + 1 - 1)) = false ∨ neuC (chS s (f + 1)) = false) := Lib.hid (.inr (.inr (.inl hn)))
                rw [hn] at HN
                clear HR HT hn
                generalize chS s f = c at *
                go_wp2_with fail
                refine (HN.out _).mono ?_
                rintro e w' ⟨rfl, rfl⟩
                go_wp2_with fail
                go_roundw
                case rel => exact ⟨f + 1, M, by omega, by go_num, HX, HY⟩
                case measure => simp [intOf]; omega
              | true =>
                rw [hn] at HN
                have HB : Hid (0 < f → pbF s b f = finF s b (f - 1)) := Lib.hid (fun h0 => by
                  have h1 : neuC (chS s (f - 1)) = false := by
                    rcases HT.out with h | h | h | h
                    · omega
                    · omega
                    · exact h
                    · rw [hn] at h; cases h
                  rw [pbF_str h0 h1, finF_str h1])
                have HnF := Lib.hid hn
                clear HT hn
                obtain ⟨c, hcc⟩ : ∃ c, chS s f = c := ⟨_, rfl⟩
                rw [hcc] at hc HN hcb
                clear hcc
                go_wp2_with fail
                refine (HN.out _).mono ?_
                rintro e w' ⟨rfl, rfl⟩
                go_wp2_with fail
                go_loop [10] (fun t => ∃ t' : Nat, f ≤ t' ∧ t' ≤ s.size ∧ t = .int .i64 t' ∧ Hid (∀ j, f ≤ j → j < t' → neuC (chS s j) = true)) (fun t => s.size - (intOf t).toNat)
                case atStart => exact ⟨f, by omega, by omega, rfl, Lib.hid (fun j h1 h2 => by omega)⟩
                case round =>
                  obtain ⟨t, ht0, ht, rfl, HRun⟩ := hrel
                  by_cases hte : t < s.size
                  · have hc := chS_at s t hte
                    have HN := Lib.hid (fun w' => isNeutral_any (chS s t) w')
                    have hcb := chS_byte s t
                    cases hn : neuC (chS s t) with
                    | true =>
                      have HY : Hid (∀ j, f ≤ j → j < t + 1 → neuC (chS s j) = true) := Lib.hid (fun j h1 h2 => by
                        by_cases e : j = t
                        · subst e; exact hn
                        · exact HRun.out j h1 (by omega))
                      rw [hn] at HN
                      clear HRun hn
                      generalize chS s t = c2 at *
                      go_wp2_with fail
                      refine (HN.out _).mono ?_
                      rintro e w' ⟨rfl, rfl⟩
                      go_wp2_with fail
                      go_round
                      case rel => exact ⟨t + 1, by omega, by omega, by go_num, HY⟩
                      case measure => simp [intOf]; omega
                    | false =>
                      have HnT := Lib.hid hn
                      have hft : f < t := by
                        by_cases e : f = t
                        · subst e; rw [HnF.out] at hn; cases hn
                        · omega
                      rw [hn] at HN
                      clear hn
                      obtain ⟨c2, hc2⟩ : ∃ c, chS s t = c := ⟨_, rfl⟩
                      rw [hc2] at hc HN hcb
                      clear hc2
                      go_wp2_with fail
                      refine (HN.out _).mono ?_
                      rintro e w' ⟨rfl, rfl⟩
                      by_cases hf0 : 0 < f
                      · skip
                        have hdf : decide (0 < (f : Int)) = true := decide_eq_true (by omega)
                        have hcf : (0 : Int) < f := by omega
                        have c0 := HR.out.row.cell (f - 1) (by omega)
                        rw [HR.out.fin (f - 1) (by omega), ← HB.out hf0] at c0
                        have hwf : IntKind.i64.wrap ((f : Int) - 1) = (f : Int) - 1 := IntWalk.i64_in _ (by omega)
                        have c1 := HR.out.row.cell t (by omega)
                        rw [HR.out.str t ht0 (by omega) HnT.out, ← nbF_str (by omega) HnT.out] at c1
                        have HFin := Lib.hid (run_fin (base := b) ht HRun.out)
                        have hPl := pbF_le s b hb1 f
                        have hQl : nbF s b t ≤ 2 := nbGo_le s b hb1 _ _
                        generalize pbF s b f = P at *
                        generalize nbF s b t = Q at *
                        clear HRun HB
                        go_wp2_with fail
                        go_loopw [9] (fun i wr' => ∃ (f' : Nat) (M' : List Int), f ≤ f' ∧ f' ≤ t ∧ i = .int .i64 f' ∧ Hid (Lv2 w wr' s b f' M')) (fun i _ => t - (intOf i).toNat)
                        case atStart => exact ⟨f, M, by omega, by omega, rfl, HR⟩
                        case round =>
                          clear HR c0 c1
                          obtain ⟨f', M', hf1, hf2, rfl, HR⟩ := hrel
                          by_cases hlt2 : f' < t
                          · have hfr := HR.out.row.free f'
                            have hce := HR.out.row.cell f' (by omega)
                            have HX := Lib.hid (HR.out.put (by omega) ((neut P Q b : Nat) : Int) (by rw [HFin.out f' hf1 hlt2]))
                            generalize M'.getD f' 0 = z at *
                            go_wp2_with fail
                            refine (neutralLevel_any P Q b _ (by omega) (by omega) hb1).mono ?_
                            rintro e w' ⟨rfl, rfl⟩
                            go_wp2_with fail
                            go_roundw
                            case rel => exact ⟨f' + 1, _, by omega, by omega, by go_num, HX⟩
                            case measure => simp [intOf]; omega
                          · obtain rfl : f' = t := by omega
                            go_wp2_with fail
                            go_roundw
                            case rel => exact ⟨f', M', by omega, by go_num, HR, Lib.hid (.inr (.inr (.inr HnT.out)))⟩
                            case measure => simp [intOf]; omega
                      · skip
                        have eP : pbF s b f = b := by rw [show f = 0 by omega]; rfl
                        have c1 := HR.out.row.cell t (by omega)
                        rw [HR.out.str t ht0 (by omega) HnT.out, ← nbF_str (by omega) HnT.out] at c1
                        have HFin := Lib.hid (run_fin (base := b) ht HRun.out)
                        have hPl := pbF_le s b hb1 f
                        have hQl : nbF s b t ≤ 2 := nbGo_le s b hb1 _ _
                        rw [eP] at HFin
                        generalize nbF s b t = Q at *
                        clear HRun HB eP hPl
                        go_wp2_with fail
                        go_loopw [9] (fun i wr' => ∃ (f' : Nat) (M' : List Int), f ≤ f' ∧ f' ≤ t ∧ i = .int .i64 f' ∧ Hid (Lv2 w wr' s b f' M')) (fun i _ => t - (intOf i).toNat)
                        case atStart => exact ⟨f, M, by omega, by omega, rfl, HR⟩
                        case round =>
                          clear HR c1
                          obtain ⟨f', M', hf1, hf2, rfl, HR⟩ := hrel
                          by_cases hlt2 : f' < t
                          · have hfr := HR.out.row.free f'
                            have hce := HR.out.row.cell f' (by omega)
                            have HX := Lib.hid (HR.out.put (by omega) ((neut b Q b : Nat) : Int) (by rw [HFin.out f' hf1 hlt2]))
                            generalize M'.getD f' 0 = z at *
                            go_wp2_with fail
                            refine (neutralLevel_any b Q b _ (by omega) (by omega) hb1).mono ?_
                            rintro e w' ⟨rfl, rfl⟩
                            go_wp2_with fail
                            go_roundw
                            case rel => exact ⟨f' + 1, _, by omega, by omega, by go_num, HX⟩
                            case measure => simp [intOf]; omega
                          · obtain rfl : f' = t := by omega
                            go_wp2_with fail
                            go_roundw
                            case rel => exact ⟨f', M', by omega, by go_num, HR, Lib.hid (.inr (.inr (.inr HnT.out)))⟩
                            case measure => simp [intOf]; omega
                  · have hft : f < t := by omega
                    by_cases hf0 : 0 < f
                    · skip
                      have hdf : decide (0 < (f : Int)) = true := decide_eq_true (by omega)
                      have hcf : (0 : Int) < f := by omega
                      have c0 := HR.out.row.cell (f - 1) (by omega)
                      rw [HR.out.fin (f - 1) (by omega), ← HB.out hf0] at c0
                      have hwf : IntKind.i64.wrap ((f : Int) - 1) = (f : Int) - 1 := IntWalk.i64_in _ (by omega)
                      have eQ : nbF s b t = b := by rw [show t = s.size by omega]; exact nbF_end s b
                      have HFin := Lib.hid (run_fin (base := b) ht HRun.out)
                      have hPl := pbF_le s b hb1 f
                      have hQl : nbF s b t ≤ 2 := nbGo_le s b hb1 _ _
                      generalize pbF s b f = P at *
                      rw [eQ] at HFin
                      clear HRun HB eQ hQl
                      go_wp2_with fail
                      go_loopw [9] (fun i wr' => ∃ (f' : Nat) (M' : List Int), f ≤ f' ∧ f' ≤ t ∧ i = .int .i64 f' ∧ Hid (Lv2 w wr' s b f' M')) (fun i _ => t - (intOf i).toNat)
                      case atStart => exact ⟨f, M, by omega, by omega, rfl, HR⟩
                      case round =>
                        clear HR c0
                        obtain ⟨f', M', hf1, hf2, rfl, HR⟩ := hrel
                        by_cases hlt2 : f' < t
                        · have hfr := HR.out.row.free f'
                          have hce := HR.out.row.cell f' (by omega)
                          have HX := Lib.hid (HR.out.put (by omega) ((neut P b b : Nat) : Int) (by rw [HFin.out f' hf1 hlt2]))
                          generalize M'.getD f' 0 = z at *
                          go_wp2_with fail
                          refine (neutralLevel_any P b b _ (by omega) (by omega) hb1).mono ?_
                          rintro e w' ⟨rfl, rfl⟩
                          go_wp2_with fail
                          go_roundw
                          case rel => exact ⟨f' + 1, _, by omega, by omega, by go_num, HX⟩
                          case measure => simp [intOf]; omega
                        · obtain rfl : f' = t := by omega
                          go_wp2_with fail
                          go_roundw
                          case rel => exact ⟨f', M', by omega, by go_num, HR, Lib.hid (.inr (.inl (by omega)))⟩
                          case measure => simp [intOf]; omega
                    · skip
                      have eP : pbF s b f = b := by rw [show f = 0 by omega]; rfl
                      have eQ : nbF s b t = b := by rw [show t = s.size by omega]; exact nbF_end s b
                      have HFin := Lib.hid (run_fin (base := b) ht HRun.out)
                      have hPl := pbF_le s b hb1 f
                      have hQl : nbF s b t ≤ 2 := nbGo_le s b hb1 _ _
                      rw [eP] at HFin
                      rw [eQ] at HFin
                      clear HRun HB eP hPl eQ hQl
                      go_wp2_with fail
                      go_loopw [9] (fun i wr' => ∃ (f' : Nat) (M' : List Int), f ≤ f' ∧ f' ≤ t ∧ i = .int .i64 f' ∧ Hid (Lv2 w wr' s b f' M')) (fun i _ => t - (intOf i).toNat)
                      case atStart => exact ⟨f, M, by omega, by omega, rfl, HR⟩
                      case round =>
                        clear HR
                        obtain ⟨f', M', hf1, hf2, rfl, HR⟩ := hrel
                        by_cases hlt2 : f' < t
                        · have hfr := HR.out.row.free f'
                          have hce := HR.out.row.cell f' (by omega)
                          have HX := Lib.hid (HR.out.put (by omega) ((neut b b b : Nat) : Int) (by rw [HFin.out f' hf1 hlt2]))
                          generalize M'.getD f' 0 = z at *
                          go_wp2_with fail
                          refine (neutralLevel_any b b b _ (by omega) (by omega) hb1).mono ?_
                          rintro e w' ⟨rfl, rfl⟩
                          go_wp2_with fail
                          go_roundw
                          case rel => exact ⟨f' + 1, _, by omega, by omega, by go_num, HX⟩
                          case measure => simp [intOf]; omega
                        · obtain rfl : f' = t := by omega
                          go_wp2_with fail
                          go_roundw
                          case rel => exact ⟨f', M', by omega, by go_num, HR, Lib.hid (.inr (.inl (by omega)))⟩
                          case measure => simp [intOf]; omega
            · obtain rfl : f = s.size := by omega
              have hM := HR.out.out HO.out hb1
              go_wp2_with fail
              go_ret
              rw [← hM]
              exact ⟨_, rfl, ⟨by rw [HR.out.row.len]; exact HR.out.row.row, fun g hg => by simp [Value.ownBlock] at hg; have := (HR.out.row.row.lt w.heap.size rfl).2; omega, Nat.le_refl _⟩, HR.out.row.below⟩
    · rw [levS_no (fun h => hb h.2)]
      rw [hok] at HV
      have hd : decide (0 ≤ base ∧ base ≤ 1) = false := decide_eq_false hb
      clear hok hb
      go_enter Try.func21, Try.ntmps21
      go_wp2_with fail
      refine (HV.out _).mono ?_
      rintro e w' ⟨rfl, rfl⟩
      go_wp2_with (go_at_call 24; refine (within_any _ _ _ _).mono ?_; rintro e w' ⟨rfl, rfl⟩)
      go_ret
      exact ⟨_, rfl, own_nil _ _ _ (Nat.le_refl _), Below.refl _ _⟩
end Go.Proofs.Ytbecdndeddkibaa

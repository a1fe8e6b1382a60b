/- The pages of blocks, by the program. -/
import Derived.Test.YtgppljadkpoklaaDoorRefPlain
import Derived.Test.YtgppljadkpoklaaDoorBlkValid
import Derived.Test.YtgppljadkpoklaaDoorItoa
import Derived.Test.YtgppljadkpoklaaDoorDrawCols
namespace Go.Proofs.YtgppljadkpoklaaDoor
open Go.RowKit
set_option maxHeartbeats 2000000
set_option maxRecDepth 100000

/-- Itoa, by the length of its text. -/
theorem itoa_len (n : Nat) (hn : n ≤ 1000000000) (w : World) (hT : Pow10 w) :
    Calls Tryd.prog 49 #[.int .i64 n] w fun e w' => ∃ s : ByteArray, s.size = ndg n ∧ e = .returned (.string s) ∧ Below w.heap.size w w' :=
  (itoa_any n hn w hT).mono fun _ _ ⟨he, hb⟩ => ⟨⟨(Lib.decDigits n).toArray⟩, by show ((Lib.decDigits n).toArray).size = _; simp [ndg], he, hb⟩
theorem sdigits_any (n : Nat) (hn : n ≤ 1000000) (w : World) :
    Calls Tryd.prog 50 #[.int .i64 n] w fun e w' => e = .returned (.int .i64 (ndg n : Int)) ∧ Below w.heap.size w w' := by
  go_enter Tryd.func50, Tryd.ntmps50
  go_wp2_with fail
  refine (formatInt_any n n w (Nat.le_refl _) (by omega)).mono ?_
  rintro e w1 ⟨rfl, b1⟩
  have hs : ((⟨(Lib.decDigits n).toArray⟩ : ByteArray).size) = ndg n := by show ((Lib.decDigits n).toArray).size = _; simp [ndg]
  have HS := Lib.hid hs
  clear hs
  generalize (⟨(Lib.decDigits n).toArray⟩ : ByteArray) = s at *
  go_wp2_with fail
  go_ret
  rw [← HS.out]
  exact ⟨rfl, b1⟩

/-- One int appended, the literal's block under a name of its own. -/
theorem wpList_append_intH {ops : Array Oper} {rest : List Oper} {o : Oper} {a : Act} {Q : Exit → Act → World → Prop} {w : World} (hgd : o.guard = none) (s x : Operand)
    (ho : o.op = .call { callee := .builtin .append, args := #[s, x], argTypes := #[24, 24] }) (H B : Nat) (hH : w.heap.size = H) (v : Value) (n : Nat) (L : List Int) (z : Int)
    (hown : w.ownsRow B 3 1 v n (L.map (Value.int .i64))) (hs : a.eval s = v) (hx : a.eval x = .slice (some ⟨H, 0, none⟩) 1 1) (h63 : n ≤ 1000000000) (hbase : B ≤ w.heap.size)
    (h : ∀ v' w', w'.ownsRow B 3 1 v' (n + 1) ((L ++ [z]).map (Value.int .i64)) → w.grownBy w' v.ownBlock → wpList Tryd.prog ops Q rest (a.put o.dst v') w') :
    wpList Tryd.prog ops Q (o :: rest) a (w.alloc (.cells #[.int .i64 z] 3)) := by
  subst hH
  exact wpList_append_int hgd s x ho B v n L z hown hs hx h63 hbase (fun v' w' h1 h2 => h v' w' (by simpa using h1) h2)

theorem pagesOf_any (v u : Value) (B : List Blk) (ln : Nat) (K : List Int) (w : World) (h : SlB w v B) (hu : SlI w u K) (hT : Pow10 w) (hB : okB B = true) (hl1 : 1 ≤ ln) (hl2 : ln ≤ 40) (hK : okK K = true) :
    Calls Tryd.prog 36 #[v, .int .i64 ln, u] w (GaveI (pagesF B ln K B.length) w) := by
  have HW := Lib.hid h
  have HU := Lib.hid hu
  have HT := Lib.hid hT
  obtain ⟨a, cap, rfl, h1, h2, _⟩ := h
  have hK10 := (okK_at hK).1
  obtain ⟨ak, ck, rfl⟩ : ∃ a c, u = .slice a 10 c := by obtain ⟨a, c, e, _⟩ := hu; rw [hK10] at e; exact ⟨a, c, e⟩
  have hck : 10 ≤ ck ∧ ck ≤ maxLen := by obtain ⟨_, _, e, h1, h2, _⟩ := hu; injection e with _ _ e; subst e; rw [hK10] at h1; exact ⟨h1, h2⟩
  unfold maxLen at h2 hck
  have hBl := (okB_at hB).1
  have HC : Hid (∀ k, k < B.length → ∃ b off, a = some ⟨b, off, none⟩ ∧ b < w.heap.size ∧ ∀ i, i < B.length → w.cell? ⟨b, off + i * 3, none⟩ = some (.int .i64 (bl B i)) ∧ w.cell? ⟨b, off + i * 3 + 1, none⟩ = some (.int .i64 (bb B i)) ∧ w.cell? ⟨b, off + i * 3 + 2, none⟩ = some (.int .i64 (br B i))) := fun k hk => (HW.out.cells (by omega)).2
  have HCk := Lib.hid (show ∃ b off, ak = some ⟨b, off, none⟩ ∧ b < w.heap.size ∧ ∀ i, i < 10 → w.cell? ⟨b, off + i, none⟩ = some (.int .i64 (K.getD i 0)) from HU.out.cells (by omega))
  have HOk : Hid (∀ k, k < B.length → (1 ≤ bl B k ∧ bl B k ≤ 40) ∧ (0 ≤ br B k ∧ br B k ≤ 9)) := Lib.hid (fun k hk => by have := okB1_at ((okB_at hB).2 k hk); exact ⟨this.1, this.2.2.1⟩)
  have HAt : Hid (∀ k, k ≤ B.length → atF B K k ≤ 880) := Lib.hid (fun k hk => by have := atF_bd hB hK k hk; omega)
  have HSt : Hid (∀ k, atF B K (k + 1) = atF B K k + (bl B k).toNat + (if 0 < br B k then ndg (K.getD (br B k).toNat 0).toNat - 1 else 0)) := Lib.hid (fun k => rfl)
  have HPg := Lib.hid (pagesF_succ B ln K)
  have HPl := Lib.hid (pagesF_len B ln K)
  have HKb := Lib.hid (okK_getD hK)
  have HO0 : Hid (w.ownsRow w.heap.size 3 1 (.slice none 0 0) 0 ((pagesF B ln K 0).map (Value.int .i64))) := World.ownsRow_nil ..
  have hln0 : ((ln : Int) == 0) = false := by rw [beq_eq_false_iff_ne]; omega
  clear hu HW HU hB hK hT hK10
  generalize B.length = n at *
  go_enter Tryd.func36, Tryd.ntmps36
  go_wp2_with fail
  go_loopw [7, 8, 13] (fun vo s i wr => ∃ (k m : Nat), k ≤ n ∧ i = .int .i64 k ∧ s = .int .i64 m ∧ m ≤ 880 ∧ Hid (atF B K k = m) ∧ Hid (Below w.heap.size w wr) ∧ Hid (wr.ownsRow w.heap.size 3 1 vo k ((pagesF B ln K k).map (Value.int .i64)))) (fun _ _ i _ => n - (intOf i).toNat)
  case atStart => exact ⟨0, 0, by omega, rfl, rfl, by omega, rfl, Below.refl _ _, HO0⟩
  case round =>
    clear HO0
    obtain ⟨k, m, hk, rfl, rfl, hm, HM, HB, HO⟩ := hrel
    by_cases hlt : k < n
    · obtain ⟨b, off, rfl, hb, hc⟩ := HC.out k hlt
      obtain ⟨bk, ok, rfl, hbk, hck2⟩ := HCk.out
      have c0 := (HB.out.cell (p := ⟨b, off + k * 3, none⟩) hb).trans (hc k hlt).1
      have c1 := (HB.out.cell (p := ⟨b, off + k * 3 + 1, none⟩) hb).trans (hc k hlt).2.1
      have c2 := (HB.out.cell (p := ⟨b, off + k * 3 + 2, none⟩) hb).trans (hc k hlt).2.2
      have hxy := HOk.out k hlt
      have HS := Lib.hid (HSt.out k)
      rw [HM.out] at HS
      have HP := Lib.hid (HPg.out k)
      rw [HM.out] at HP
      have hat := HAt.out (k + 1) (by omega)
      obtain ⟨x, hx⟩ := Int.eq_ofNat_of_zero_le (show 0 ≤ bl B k by omega)
      obtain ⟨z, hz⟩ := Int.eq_ofNat_of_zero_le (show 0 ≤ br B k by omega)
      rw [hx] at c0 HS hxy
      rw [hz] at c2 HS hxy
      rw [Int.toNat_natCast, Int.toNat_natCast] at HS
      clear hx hz hc
      generalize bb B k = y at *
      have hbel : Below wr.heap.size wr (wr.alloc (.cells #[.int .i64 (x : Int), .int .i64 y, .int .i64 (z : Int)] 31)) := (Below.refl _ _).alloc (Nat.le_refl _) _
      have HB3 := Lib.hid (HB.out.trans (hbel.mono HB.out.size))
      have hf0 : (wr.alloc (.cells #[.int .i64 (x : Int), .int .i64 y, .int .i64 (z : Int)] 31)).cell? ⟨wr.heap.size, 0, none⟩ = some (.int .i64 (x : Int)) := by simp [go_sem]
      have hf2 : (wr.alloc (.cells #[.int .i64 (x : Int), .int .i64 y, .int .i64 (z : Int)] 31)).cell? ⟨wr.heap.size, 2, none⟩ = some (.int .i64 (z : Int)) := by simp [go_sem]
      have HF0 := Lib.hid hf0
      have HF2 := Lib.hid hf2
      have HO3 := Lib.hid ((ownC_of HO.out).below hbel).row
      have HLt := Lib.hid (fun j hj => (HO.out.lt j hj).2)
      have hbs := HB.out.size
      have hbf : wr.heap.size < (wr.alloc (.cells #[.int .i64 (x : Int), .int .i64 y, .int .i64 (z : Int)] 31)).heap.size := by simp
      have HDv : Hid ((m : Int) / (ln : Int) + 1 = ((m / ln + 1 : Nat) : Int)) := Lib.hid (by simp)
      clear hbel hf0 hf2 HB HO
      have hz9 := hxy.2.2
      have hdv : 0 ≤ (m : Int) / (ln : Int) ∧ (m : Int) / (ln : Int) ≤ 880 := by
        have e : (m : Int) / (ln : Int) = ((m / ln : Nat) : Int) := by simp
        have hq : m / ln ≤ m := Nat.div_le_self _ _
        rw [e]
        generalize m / ln = qq at *
        omega
      go_wp2_with (at_builtin; go_must (refine wpList_append_intH rfl _ _ rfl (wr.heap.size + 1) w.heap.size (by simp) _ k (pagesF B ln K k) ((m : Int) / (ln : Int) + 1) HO3.out rfl rfl (by omega) (by omega) ?_))
      intro v' w4 g1 g2
      have HO4 : Hid (w4.ownsRow w.heap.size 3 1 v' (k + 1) ((pagesF B ln K (k + 1)).map (Value.int .i64))) := Lib.hid (by rw [HP.out, ← HDv.out, List.map_append]; exact g1)
      have HB4 : Hid (Below w.heap.size w w4) := Lib.hid (HB3.out.grown g2 (by omega) (fun j hj => (HO3.out.lt j hj).1))
      have hg : ∀ o, w4.cell? ⟨wr.heap.size, o, none⟩ = (wr.alloc (.cells #[.int .i64 (x : Int), .int .i64 y, .int .i64 (z : Int)] 31)).cell? ⟨wr.heap.size, o, none⟩ := by
        intro o
        exact World.cell?_of_block (g2.block wr.heap.size hbf (fun e => by have := HLt.out _ e.symm; omega))
      have f0 := (hg 0).trans HF0.out
      have f2 := (hg 2).trans HF2.out
      have hT4 : Pow10 w4 := HT.out.below HB4.out
      have HT4 := Lib.hid hT4
      have hB4 := HB4.out.size
      clear hg g1 g2 HB3 HO3 HF0 HF2 HP HDv c0 c1 c2 hT4 hdv
      have hk4 : ∀ i, i < 10 → w4.cell? ⟨bk, ok + i, none⟩ = some (.int .i64 (K.getD i 0)) := fun i hi => (HB4.out.cell (p := ⟨bk, ok + i, none⟩) hbk).trans (hck2 i hi)
      have HK4 := Lib.hid hk4
      clear hk4 hck2
      generalize wr.heap.size = bf at *
      by_cases hz0 : 0 < z
      · have hdz : decide (0 < z) = true := decide_eq_true hz0
        have hdz2 : decide ((0 : Int) < (z : Int)) = true := decide_eq_true (by omega)
        have ck4 := HK4.out z (by omega)
        have hkb := HKb.out z
        rw [if_pos (by omega : (0 : Int) < (z : Int))] at HS
        obtain ⟨kv, hkv⟩ := Int.eq_ofNat_of_zero_le hkb.1
        rw [hkv] at ck4 HS hkb
        rw [Int.toNat_natCast] at HS
        have hnd := ndg_top (n := kv) (by omega)
        have hnp := ndg_pos kv
        have HS2 : Hid (atF B K (k + 1) = m + x + (ndg kv - 1)) := Lib.hid HS.out
        rw [HS2.out] at hat
        clear HS hkv
        have hz10 : z < 10 := by omega
        go_wp2_with fail
        refine (itoa_len kv (by omega) _ HT4.out).mono ?_
        rintro e w5 ⟨s, hs, rfl, b5⟩
        have HB5 := Lib.hid (HB4.out.trans (b5.mono hB4))
        have HO5 := Lib.hid ((ownC_of HO4.out).below b5).row
        have HSz := Lib.hid hs
        have hse : (s.size : Int) = (ndg kv : Int) := by rw [hs]
        have hsb : s.size ≤ 5 ∧ 1 ≤ s.size := by omega
        have HF : Hid ((m : Int) + (x : Int) + ((s.size : Int) - 1) = ((m + x + (ndg kv - 1) : Nat) : Int)) := Lib.hid (by omega)
        clear hs hse b5 HO4 HB4
        go_wp2_with fail
        go_roundw
        case rel => exact ⟨k + 1, m + x + (ndg kv - 1), by omega, by go_num, by rw [HF.out], hat, HS2, HB5, HO5⟩
        case measure => simp [intOf]; omega
      · have hdz : decide (0 < z) = false := decide_eq_false hz0
        have hdz2 : decide ((0 : Int) < (z : Int)) = false := decide_eq_false (by omega)
        rw [if_neg (by omega : ¬ (0 : Int) < (z : Int))] at HS
        have HS2 : Hid (atF B K (k + 1) = m + x) := Lib.hid HS.out
        rw [HS2.out] at hat
        clear HS
        go_wp2_with fail
        go_roundw
        case rel => exact ⟨k + 1, m + x, by omega, by go_num, by go_num, hat, HS2, HB4, HO4⟩
        case measure => simp [intOf]; omega
    · obtain rfl : k = n := by omega
      have HOx := Lib.hid (own_rowD HO.out (HPl.out k))
      go_wp2_with fail
      go_ret
      exact ⟨_, rfl, HOx.out, HB.out⟩
end Go.Proofs.YtgppljadkpoklaaDoor

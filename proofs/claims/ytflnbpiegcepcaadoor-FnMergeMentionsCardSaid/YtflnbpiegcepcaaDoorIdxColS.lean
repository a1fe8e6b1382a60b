/- The reference's CollectIndex. -/
import Derived.Test.YtflnbpiegcepcaaDoorIdxCol
import Derived.Test.YtflnbpiegcepcaaDoorIdxNum
import Derived.Deep.RegionHeld3
namespace Go.Proofs.YtflnbpiegcepcaaDoor
open Go.RowKit
set_option maxHeartbeats 4000000
set_option maxRecDepth 100000
set_option linter.unusedVariables false

theorem validMentions_any (v : Value) (M : List Men) (w : World) (h : SlM w v M) (hz : ∀ i, i < M.length → (mw M i).size ≤ maxLen) :
    Calls Tryd.prog 55 #[v] w fun e w' => e = .returned (.bool (okMs M)) ∧ w = w' := by
  obtain ⟨a, cap, rfl, hc, hm⟩ := h.shape
  have HS := Lib.hid h
  have HZ := Lib.hid hz
  unfold maxLen at hm
  have HBad : Hid (∀ k, k < M.length → okM (mw M k, mp M k) = false → okMs M = false) := Lib.hid (fun k h1 h2 => okMs_bad h1 h2)
  have HGood : Hid ((∀ k, k < M.length → okM (mw M k, mp M k) = true) → okMs M = decide (M.length ≤ 40)) := Lib.hid (fun h => by
    by_cases hl : M.length ≤ 40
    · rw [okMs_of hl h, decide_eq_true hl]
    · rw [okMs_long (by omega), decide_eq_false hl])
  clear h hz
  obtain ⟨n, hn⟩ : ∃ n, M.length = n := ⟨_, rfl⟩
  rw [hn] at HS HZ HBad HGood hc ⊢
  clear hn
  go_enter Tryd.func55, Tryd.ntmps55
  go_wp2_with fail
  go_loopw [3] (fun i wr => ∃ k : Nat, k ≤ n ∧ i = .int .i64 k ∧ wr = w ∧ Hid (∀ j, j < k → okM (mw M j, mp M j) = true)) (fun i _ => n - (intOf i).toNat)
  case atStart => exact ⟨0, by omega, rfl, rfl, Lib.hid (fun j hj => by omega)⟩
  case round =>
    obtain ⟨k, hk, rfl, rfl, HP⟩ := hrel
    by_cases hlt : k < n
    · obtain ⟨b, off, rfl, hbl, hat⟩ := HS.out.at (by omega)
      obtain ⟨c0, c1⟩ := hat k hlt
      have HVW := Lib.hid (fun w' => isWord_any (mw M k) w' (HZ.out k hlt))
      have HP' : Hid (okM (mw M k, mp M k) = true → ∀ j, j < k + 1 → okM (mw M j, mp M j) = true) := Lib.hid (fun hz j hj => by
        by_cases e : j = k
        · subst e; exact hz
        · exact HP.out j (by omega))
      have HBk := Lib.hid (HBad.out k hlt)
      clear hat HP
      obtain ⟨s, hs⟩ : ∃ s, mw M k = s := ⟨_, rfl⟩
      obtain ⟨p, hp⟩ : ∃ p, mp M k = p := ⟨_, rfl⟩
      rw [hs, hp] at HP' HBk
      rw [hs] at c0 HVW
      rw [hp] at c1
      clear hs hp
      cases hw : okW s with
      | false =>
        rw [hw] at HVW
        have HF := Lib.hid (HBk.out (by unfold okM; rw [hw]; rfl))
        clear hw HP'
        go_wp2_with fail
        refine (HVW.out _).mono ?_
        rintro e w' ⟨rfl, rfl⟩
        go_wp2_with fail
        go_ret
        exact ⟨by rw [HF.out]; rfl, rfl⟩
      | true =>
        rw [hw] at HVW
        by_cases hr : 1 ≤ p ∧ p ≤ 3999
        · have hd2 : decide (1 ≤ p ∧ p ≤ 3999) = true := decide_eq_true hr
          have HX := Lib.hid (HP'.out (by unfold okM; rw [hw, decide_eq_true hr]; rfl))
          clear hw HBk HP' hr
          go_wp2_with (first | (go_at_call 79; refine (HVW.out _).mono ?_; rintro e w' ⟨rfl, rfl⟩) | (go_at_call 60; refine (inRange_any _ _ _ _).mono ?_; rintro e w' ⟨rfl, rfl⟩))
          go_roundw
          case rel => exact ⟨k + 1, by omega, by go_num, by first | rfl | trivial, HX⟩
          case measure => simp [intOf]; omega
        · have hd2 : decide (1 ≤ p ∧ p ≤ 3999) = false := decide_eq_false hr
          have HF := Lib.hid (HBk.out (by unfold okM; rw [decide_eq_false hr]; simp))
          clear hw HP' hr
          go_wp2_with (first | (go_at_call 79; refine (HVW.out _).mono ?_; rintro e w' ⟨rfl, rfl⟩) | (go_at_call 60; refine (inRange_any _ _ _ _).mono ?_; rintro e w' ⟨rfl, rfl⟩))
          go_ret
          exact ⟨by rw [HF.out]; rfl, rfl⟩
    · obtain rfl : k = n := by omega
      have HG := Lib.hid (HGood.out HP.out)
      by_cases h40 : k ≤ 40
      · have hd : decide ((k : Int) ≤ 40) = true := decide_eq_true (by omega)
        go_wp2_with fail
        go_ret
        exact ⟨by rw [HG.out, decide_eq_true h40]; rfl, rfl⟩
      · have hd : decide ((k : Int) ≤ 40) = false := decide_eq_false (by omega)
        go_wp2_with fail
        go_ret
        exact ⟨by rw [HG.out, decide_eq_false h40]; rfl, rfl⟩

/-- The pages of an entry replaced by a row that is new or the old one. -/
theorem OwnX.stored2 {lo k n cap g : Nat} {w w' : World} {X : List XE} {s : ByteArray} {L : List Int} {u : Value} (h : OwnX lo w (.slice (some ⟨g, 0, none⟩) n cap) X) (hk : k < X.length) (hs : X[k].1.1 = s)
    (hz : w.heap.size ≤ w'.heap.size) (hb : ∀ b, b < w.heap.size → w'.heap[b]? = w.heap[b]?) (hu : (u = X[k].2 ∧ L = X[k].1.2) ∨ OwnI w.heap.size w'.heap.size w' u L) :
    OwnX lo (w'.setCell ⟨g, k * 2 + 1, none⟩ u) (.slice (some ⟨g, 0, none⟩) n cap) (X.set k ((s, L), u)) := by
  rcases hu with ⟨rfl, rfl⟩ | hu
  · have hgl := (h.row.lt g rfl).2
    have hzz : (w'.setCell ⟨g, k * 2 + 1, none⟩ X[k].2).heap.size = w'.heap.size := by simp [World.setCell]
    have hn : n = X.length := by
      rcases h.row.2 with ⟨e, _⟩ | ⟨g', cap', cur, e, _⟩
      · injection e with e _ _; cases e
      · injection e
    have hr' : w'.ownsRow lo 40 2 (.slice (some ⟨g, 0, none⟩) n cap) n (xC X) := by rw [hn]; rw [hn] at h; exact row_same h.row (fun j hj => hb j (h.row.lt j hj).2)
    have hrs := (hr'.stored (k * 2 + 1) X[k].2).1
    have hset : X.set k ((s, X[k].1.2), X[k].2) = X := by rw [← hs]; exact List.set_getElem_self hk
    rw [xC_set X k ((s, X[k].1.2), X[k].2) s hk (fun _ => hs) rfl, hset] at hrs
    rw [hset]
    have hoth : ∀ j, j ≠ g → (w'.setCell ⟨g, k * 2 + 1, none⟩ X[k].2).heap[j]? = w'.heap[j]? := fun j hj => Below.heap_setCell _ _ _ _ (by simpa using hj)
    refine ⟨by rw [← hn]; exact hrs, h.pg.same (fun b hbm => ?_) (by rw [hzz]; exact hz) (Nat.le_refl _) (fun b hbm => (h.pg.top b hbm).2)⟩
    have ht := h.pg.top b hbm
    rw [hoth b (fun e => ht.2 (by rw [e]; rfl))]
    exact hb b ht.1
  · exact h.stored hk hs hz hb hu (Nat.le_refl _)

/-- An index whose entry t is about to take a page, in the reference. -/
structure Rdy (lo : Nat) (w W : World) (g t n cap : Nat) (lk : List Int) (ak : Option Addr) (ck : Nat) (word : ByteArray) (p : Int) (T : List Ent) (X0 : List XE) : Prop where
  own : OwnX lo W (.slice (some ⟨g, 0, none⟩) n cap) X0
  len : X0.length = n
  wd : ∀ h : t < X0.length, X0[t].1.1 = word
  old : ∀ h : t < X0.length, X0[t].2 = .slice ak lk.length ck ∧ X0[t].1.2 = lk
  c1 : W.cell? ⟨g, t * 2 + 1, none⟩ = some (.slice ak lk.length ck)
  sl : SlI W (.slice ak lk.length ck) lk
  shp : Value.slice ak lk.length ck = .slice none 0 0 ∨ ∃ b off c, Value.slice ak lk.length ck = .slice (some ⟨b, off, none⟩) lk.length c
  bel : Below lo w W
  small : lk.length ≤ 1000
  fin : ∀ u : Value, xE (X0.set t ((word, addN lk p), u)) = T
  tn : t < n
  nc : n ≤ cap
  cm : cap ≤ maxLen
theorem row_shp {lo : Nat} {w : World} {v : Value} {L : List Int} (h : w.ownsRow lo 3 1 v L.length (L.map (Value.int .i64))) : v = .slice none 0 0 ∨ ∃ b off c, v = .slice (some ⟨b, off, none⟩) L.length c := by
  rcases h.2 with ⟨rfl, _⟩ | ⟨g, c, cur, rfl, _⟩
  · exact .inl rfl
  · exact .inr ⟨g, 0, c, rfl⟩
theorem rdy_of {lo t : Nat} {w W : World} {v : Value} {p : Int} {word : ByteArray} {T : List Ent} {X0 : List XE} (h : OwnX lo W v X0) (hk : t < X0.length) (hs : X0[t].1.1 = word) (hB : Below lo w W) (hl : X0[t].1.2.length ≤ 1000)
    (hF : ∀ u : Value, xE (X0.set t ((word, addN X0[t].1.2 p), u)) = T) : ∃ g cap ak ck lk, v = .slice (some ⟨g, 0, none⟩) X0.length cap ∧ Rdy lo w W g t X0.length cap lk ak ck word p T X0 := by
  obtain ⟨g, cap, rfl, hg1, hg2, hcap, hcm⟩ := h.shape (by omega)
  obtain ⟨c0, c1, fz, hsl⟩ := h.at t hk
  obtain ⟨ak, ck, hsh⟩ := SlI.shape hsl
  have hshp := row_shp (h.pg.pg _ (List.getElem_mem hk))
  rw [hsh] at c1 hsl hshp
  exact ⟨g, cap, ak, ck, X0[t].1.2, rfl, h, rfl, fun _ => hs, fun _ => ⟨hsh, rfl⟩, c1, hsl, hshp, hB, hl, hF, hk, hcap, hcm⟩
/-- What addNumber leaves, as the store behind it wants it. -/
def NumR (lo : Nat) (w : World) (g t n cap : Nat) (T : List Ent) (lk : List Int) (ak : Option Addr) (ck : Nat) (e : Ending) (w3 : World) : Prop :=
  ∃ a m c, e = .returned (.slice a m c) ∧ w3.cell? ⟨g, t * 2 + 1, none⟩ = some (.slice ak lk.length ck) ∧ w3.frozen? ⟨g, t * 2 + 1, none⟩ = false ∧
    Hid (OwnE lo (w3.setCell ⟨g, t * 2 + 1, none⟩ (.slice a m c)).heap.size (w3.setCell ⟨g, t * 2 + 1, none⟩ (.slice a m c)) (.slice (some ⟨g, 0, none⟩) n cap) T ∧ Below lo w (w3.setCell ⟨g, t * 2 + 1, none⟩ (.slice a m c)))
theorem Rdy.step {lo g t n cap ck : Nat} {w W W' : World} {lk : List Int} {ak : Option Addr} {s : ByteArray} {p : Int} {T : List Ent} {X0 : List XE} (HR : Rdy lo w W g t n cap lk ak ck s p T X0) (hlo : lo ≤ W.heap.size) (hW : W'.heap = W.heap) (hB : Below lo W W') :
    Calls Tryd.prog 51 #[.slice ak lk.length ck, .int .i64 p] W' (NumR lo w g t n cap T lk ak ck) := by
  have hsl : SlI W' (.slice ak lk.length ck) lk := by
    obtain ⟨a, cp, e, h1, h2, h3⟩ := HR.sl
    refine ⟨a, cp, e, h1, h2, ?_⟩
    rcases h3 with h3 | ⟨b, off, e, hb, hc⟩
    · exact .inl h3
    · exact .inr ⟨b, off, e, by rw [hW]; exact hb, fun i hi => by rw [World.cell?_of_block (w := W) (by rw [hW])]; exact hc i hi⟩
  refine (addNumber_any (.slice ak lk.length ck) lk p W' hsl HR.shp (by have := HR.small; omega)).mono ?_
  rintro e w3 ⟨v3, rfl, b3, h3⟩
  have hgW : g < W.heap.size := (HR.own.row.lt g rfl).2
  have hgl : lo ≤ g := (HR.own.row.lt g rfl).1
  have hGr : ∀ b, b < W.heap.size → w3.heap[b]? = W.heap[b]? := fun b hb => by rw [b3.block b (by rw [hW]; exact hb), hW]
  have hz3 : W.heap.size ≤ w3.heap.size := by rw [← hW]; exact b3.size
  have hXt : t < X0.length := by rw [HR.len]; exact HR.tn
  have h3s : ∃ a c m, v3 = .slice a m c := by
    rcases h3 with ⟨e1, _⟩ | h3
    · exact ⟨_, _, _, e1⟩
    · obtain ⟨a, c, e⟩ := ownI_slice h3; exact ⟨a, c, _, e⟩
  have HX3 := HR.own.stored2 (s := s) (L := addN lk p) (u := v3) hXt (HR.wd hXt) hz3 hGr (by
    rcases h3 with ⟨e1, e2⟩ | h3
    · exact .inl ⟨e1.trans (HR.old hXt).1.symm, e2.trans (HR.old hXt).2.symm⟩
    · rw [hW] at h3; exact .inr h3)
  obtain ⟨a3, k3, m3, rfl⟩ := h3s
  obtain ⟨_, _, fz, _⟩ := HR.own.at t hXt
  have hw := HX3.own
  rw [HR.fin] at hw
  exact ⟨a3, m3, k3, rfl, by rw [World.cell?_of_block (w := W) (hGr g hgW)]; exact HR.c1, by rw [World.frozen?_of_block (w := W) (hGr g hgW)]; exact fz _, hw, (HR.bel.trans (hB.trans (b3.mono (by rw [hW]; exact hlo)))).setCell hgl _⟩
theorem cell_litE {w : World} {x y : Value} {T : TypeId} : ∀ j u, [x, y][j]? = some u → (w.alloc (.cells #[x, y] T)).cell? ((⟨w.heap.size, 0, none⟩ : Addr).add j) = some u := cell_lit (heap_alloc_new w _)

/-- The place of a word among the entries so far. -/
def Behind (E : List Ent) (word : ByteArray) (t : Nat) : Prop := ∀ j, j < t → ltW (ew E j) word = true
theorem scollectIndex_any (v : Value) (M : List Men) (w : World) (h : SlM w v M) (hz : ∀ i, i < M.length → (mw M i).size ≤ maxLen) :
    Calls Tryd.prog 27 #[v] w (GaveE (colS M) w) := by
  obtain ⟨a, cap, rfl, hc, hm⟩ := h.shape
  have HS := Lib.hid h
  have HV := Lib.hid (fun w' (hb : Below w.heap.size w w') => validMentions_any (.slice a M.length cap) M w' (h.below hb) hz)
  have HA0 : Hid (Below w.heap.size w (w.alloc (.cells #[] 40))) := Lib.hid ((Below.refl _ _).alloc (Nat.le_refl _) _)
  unfold maxLen at hm
  cases hok : okMs M with
  | false =>
    rw [colS_no hok]
    rw [hok] at HV
    have HB := Lib.hid (HV.out _ HA0.out)
    clear HS h hz hok HV
    go_enter Tryd.func27, Tryd.ntmps27
    go_wp2_with fail
    refine HB.out.mono ?_
    rintro e w' ⟨rfl, rfl⟩
    go_wp2_with fail
    go_ret
    exact gaveE_nil HA0.out
  | true =>
    rw [hok] at HV
    have HB := Lib.hid (HV.out _ HA0.out)
    have h40 := okMs_le hok
    have HCol := Lib.hid (colS_ok hok)
    have HOk := Lib.hid (fun k (h : k ≤ M.length) => colF_ok M k h)
    have HSucc := Lib.hid (fun k (h : k < M.length) => colF_succ M k h)
    have HE0 : Hid (OwnE w.heap.size (w.alloc (.cells #[] 40)).heap.size (w.alloc (.cells #[] 40)) (.slice (some ⟨w.heap.size, 0, none⟩) 0 0) (colF M 0)) := Lib.hid
      ⟨[], rfl, World.ownsRow_lit w #[] 0 (Nat.le_refl _) (Nat.zero_le _) rfl, fun k hk => by simp [Value.ownBlock] at hk; subst hk; simp, PgOwn.nil _ _ _ _ (Nat.le_refl _)⟩
    clear h hz hok HV
    obtain ⟨n, hn⟩ : ∃ n, M.length = n := ⟨_, rfl⟩
    rw [hn] at HS HB HCol HOk HSucc hc h40 ⊢
    clear hn
    go_enter Tryd.func27, Tryd.ntmps27
    go_wp2_with fail
    refine HB.out.mono ?_
    rintro e w' ⟨rfl, rfl⟩
    go_wp2_with fail
    go_loopw [3, 4] (fun v i wr => ∃ (k : Nat) (g cap : Nat), k ≤ n ∧ i = .int .i64 k ∧ v = .slice (some ⟨g, 0, none⟩) (colF M k).length cap ∧ Hid (OwnE w.heap.size wr.heap.size wr (.slice (some ⟨g, 0, none⟩) (colF M k).length cap) (colF M k)) ∧ Hid (Below w.heap.size w wr)) (fun _ i _ => n - (intOf i).toNat)
    case atStart => exact ⟨0, w.heap.size, 0, by omega, rfl, rfl, HE0, HA0⟩
    case round =>
      clear HE0 HA0 HB
      obtain ⟨k, g, ocap, hk, rfl, rfl, HO, HB⟩ := hrel
      by_cases hlt : k < n
      · obtain ⟨b, off, rfl, hbl, hat⟩ := HS.out.at (by omega)
        obtain ⟨m0, m1⟩ := hat k hlt
        rw [← (bcell HB.out).1 _ _ hbl] at m0 m1
        have HSk := Lib.hid (HSucc.out k hlt)
        obtain ⟨hok, hlE, hlP⟩ := HOk.out k hk
        have HAt := Lib.hid (addP_at (mw M k) [mp M k] (colF M k))
        have HEk := Lib.hid hok
        have HLP := Lib.hid hlP
        have hbs := HB.out.size
        clear hat hok hlP
        obtain ⟨s, hs⟩ : ∃ s, mw M k = s := ⟨_, rfl⟩
        obtain ⟨p, hp⟩ : ∃ p, mp M k = p := ⟨_, rfl⟩
        obtain ⟨E, hE⟩ : ∃ E, colF M k = E := ⟨_, rfl⟩
        rw [hs, hp, hE] at HSk HAt
        rw [hE] at HO hlE HEk HLP ⊢
        rw [hs] at m0
        rw [hp] at m1
        clear hs hp hE
        obtain ⟨X, hXE, hX⟩ := HO.out.rows
        have HX := Lib.hid hX
        have HXE := Lib.hid hXE
        have hel : E.length ≤ ocap ∧ ocap ≤ maxLen := by
          obtain ⟨a, c, e, h1, h2⟩ := HO.out.sl.shape
          injection e with _ _ e; subst e; exact ⟨h1, h2⟩
        obtain ⟨hel, hom⟩ := hel
        unfold maxLen at hom
        have HEl := Lib.hid HO.out.sl
        clear hX hXE HO
        obtain ⟨ne, hne⟩ : ∃ ne, E.length = ne := ⟨_, rfl⟩
        have HNe := Lib.hid hne
        rw [hne] at HX HEl hlE hel ⊢
        clear hne
        go_wp2_with fail
        go_loopw [5] (fun i wr2 => ∃ (t q : Nat), t ≤ ne ∧ i = .int .i64 t ∧ wr2 = wr.drewN q ∧ Hid (Behind E s t)) (fun i _ => ne - (intOf i).toNat)
        case atStart => exact ⟨0, 0, by omega, rfl, rfl, Lib.hid (fun j hj => by omega)⟩
        case round =>
          obtain ⟨t, q, ht, rfl, rfl, HT⟩ := hrel
          by_cases hlt2 : t < ne
          · obtain ⟨b2, off2, e, hbl2, hat2⟩ := HEl.out.at (by omega)
            injection e with e; injection e with e1 e2
            subst e1 e2
            obtain ⟨vp, c0, c1, hsl⟩ := hat2 t hlt2
            rw [Nat.zero_add] at c0 c1
            cases hw : ltW (ew E t) s with
            | true =>
              have HT' : Hid (Behind E s (t + 1)) := Lib.hid (fun j hj => by
                by_cases e : j = t
                · subst e; exact hw
                · exact HT.out j (by omega))
              have hb : Op.bytesLess (ew E t).toList s.toList = true := hw
              clear hat2 hsl c1 hw HT
              generalize ew E t = s2 at *
              go_wp2_with fail
              go_quiet (fail)
              go_wp2_with fail
              go_roundw
              case rel => exact ⟨t + 1, _, by omega, by go_num, rfl, HT'⟩
              case measure => simp [intOf]; omega
            | false =>
              have hb : Op.bytesLess (ew E t).toList s.toList = false := hw
              have HEt := Lib.hid (HAt.out t (by rw [HNe.out]; exact ht) (fun j h hj => by
                have := HT.out j hj
                simpa [ew, List.getD_eq_getElem?_getD, h] using this) (fun h => by simpa [ew, List.getD_eq_getElem?_getD, h] using hw))
              have hXt : t < X.length := by rw [← xE_len, HXE.out, HNe.out]; exact hlt2
              by_cases he : ew E t = s
              · have HR : Hid (∀ q, ∃ g' cap' ak ck lk, Value.slice (some ⟨g, 0, none⟩) ne ocap = .slice (some ⟨g', 0, none⟩) X.length cap' ∧ Rdy w.heap.size w (wr.drewN q) g' t X.length cap' lk ak ck s p (addP E s [p]) X) := Lib.hid (fun q => by
                  obtain ⟨ee1, ee2⟩ := xE_at X t hXt
                  rw [HXE.out] at ee1 ee2
                  have hmem : X[t].1 ∈ E := by rw [← HXE.out]; exact List.mem_map.2 ⟨_, List.getElem_mem _, rfl⟩
                  refine rdy_of (HX.out.below (below_drewN (Below.refl _ _) q)) hXt (by rw [← ee1]; exact he) (below_drewN HB.out q) (by have := HLP.out _ hmem; omega) (fun u => ?_)
                  have hEt : t < E.length := by rw [HNe.out]; exact hlt2
                  have h1 := HEt.out.1 hEt (by simpa [ew, List.getD_eq_getElem?_getD, hEt] using he)
                  rw [xE_set, h1, HXE.out]
                  have : E[t].2 = X[t].1.2 := by rw [← ee2]; simp [ep, List.getD_eq_getElem?_getD, hEt]
                  rw [this]; rfl)
                have hnn : (s.toList == s.toList) = true := by simp
                have hte : ((t : Int) == (ne : Int)) = false := by simp; omega
                rw [he] at c0 hb
                clear hat2 hsl c1 hw HT he hXt HEt HAt HSucc HOk
                have HXl : Hid (X.length = ne) := Lib.hid (by rw [← xE_len, HXE.out, HNe.out])
                go_wp2_with fail
                go_quiet (fail)
                obtain ⟨q1, hq1⟩ : ∃ q1, q + nq = q1 := ⟨_, rfl⟩
                rw [World.drewN_drewN, hq1]
                clear hq1
                go_wp2_with fail
                go_quiet (fail)
                obtain ⟨q2, hq2⟩ : ∃ q2, q1 + nq = q2 := ⟨_, rfl⟩
                rw [World.drewN_drewN, hq2]
                clear hq2
                obtain ⟨g', cap', ak, ck, lk, e, HR⟩ := HR.out q2
                injection e with e e2 e3
                injection e with e; injection e with e
                subst e e3
                rw [HXl.out] at HR
                have m1 : (wr.drewN q2).cell? ⟨b, off + k * 2 + 1, none⟩ = some (.int .i64 p) := m1
                obtain ⟨W, hW⟩ : ∃ W, wr.drewN q2 = W := ⟨_, rfl⟩
                rw [hW] at HR m1 ⊢
                clear hW hb c0 hnn hte e2
                obtain ⟨X0, hX0⟩ : ∃ X0, X = X0 := ⟨_, rfl⟩
                rw [hX0] at HR
                clear hX0
                have hR := HR
                have HR := Lib.hid HR
                have c1 := hR.c1
                have htn := hR.tn
                have hnc := hR.nc
                have hcm := hR.cm
                unfold maxLen at hcm
                have hWs : w.heap.size ≤ W.heap.size := hR.bel.size
                have HNum := Lib.hid (hR.step hWs (W' := W.drew) rfl (Below.refl _ _).drew)
                have HL : Hid ((addP E s [p]).length = ne) := Lib.hid (by
                  have h2 := congrArg List.length (hR.fin (.slice none 0 0))
                  rw [xE_len, List.length_set, hR.len] at h2
                  exact h2.symm)
                clear hR
                go_wp2_with fail
                go_region_with (go_at_call 51; refine HNum.out.mono ?_; rintro e w3 ⟨a3, m3, k3, rfl, c3, f3, HF3⟩)
                all_goals
                  have HF4 : Hid (OwnE w.heap.size (w3.setCell ⟨g, t * 2 + 1, none⟩ (.slice a3 m3 k3)).heap.size (w3.setCell ⟨g, t * 2 + 1, none⟩ (.slice a3 m3 k3)) (.slice (some ⟨g, 0, none⟩) (colF M (k + 1)).length ocap) (colF M (k + 1)) ∧ Below w.heap.size w (w3.setCell ⟨g, t * 2 + 1, none⟩ (.slice a3 m3 k3)) ∧ ne = (colF M (k + 1)).length) := Lib.hid (by
                    rw [HSk.out, HL.out]; exact ⟨HF3.out.1, HF3.out.2, rfl⟩)
                  clear HNum c1 m1 c3 f3 HF3
                  go_wp2_with fail
                  go_roundw
                  case rel => exact ⟨k + 1, g, ocap, by omega, by go_num, by rw [← HF4.out.2.2], HF4.out.1, HF4.out.2.1⟩
                  case measure => simp [intOf]; omega
              · have hnn : ((ew E t).toList == s.toList) = false := by
                  cases e : ((ew E t).toList == s.toList) with
                  | false => rfl
                  | true => exact absurd (toList_inj (by simpa using e)) he
                have hte : ((t : Int) == (ne : Int)) = false := by simp; omega
                have hcn : ¬ (ocap = t) := by omega
                have HPn : Hid (t = E.length ∨ ∃ h : t < E.length, E[t].1 ≠ s) := Lib.hid (.inr ⟨by rw [HNe.out]; exact hlt2, fun e => he (by simpa [ew, List.getD_eq_getElem?_getD, show t < E.length by rw [HNe.out]; exact hlt2] using e)⟩)
                clear hat2 hsl c1 hw HT he HAt HSucc HOk hXt
                generalize ew E t = s2 at *
                go_wp2_with fail
                go_quiet (fail)
                obtain ⟨q1, hq1⟩ : ∃ q1, q + nq = q1 := ⟨_, rfl⟩
                rw [World.drewN_drewN, hq1]
                clear hq1
                go_wp2_with fail
                go_quiet (fail)
                obtain ⟨q2, hq2⟩ : ∃ q2, q1 + nq = q2 := ⟨_, rfl⟩
                rw [World.drewN_drewN, hq2]
                clear hq2 hb c0 hnn hte
                have HXl : Hid (X.length = ne) := Lib.hid (by rw [← xE_len, HXE.out, HNe.out])
                have m0 : (wr.drewN q2).cell? ⟨b, off + k * 2, none⟩ = some (.string s) := m0
                have m1 : (wr.drewN q2).cell? ⟨b, off + k * 2 + 1, none⟩ = some (.int .i64 p) := m1
                have HXW : Hid (OwnX w.heap.size (wr.drewN q2) (.slice (some ⟨g, 0, none⟩) ne ocap) X) := Lib.hid (HX.out.below (below_drewN (Below.refl _ _) q2))
                have HBW : Hid (Below w.heap.size w (wr.drewN q2)) := Lib.hid (below_drewN HB.out q2)
                have hWs : w.heap.size ≤ (wr.drewN q2).heap.size := hbs
                obtain ⟨W, hW⟩ : ∃ W, wr.drewN q2 = W := ⟨_, rfl⟩
                rw [hW] at m0 m1 HXW HBW hWs ⊢
                clear hW
                have HRow : Hid (∃ cur : Array Value, W.heap[g]? = some (.cells cur 40 (0, 0)) ∧ cur.toList.take (ne * 2) = xC X) := Lib.hid (by
                  have hr := HXW.out.row
                  rcases hr.2 with ⟨e, _⟩ | ⟨g', cap', cur, e, _, h2, _, _, _, h6⟩
                  · injection e with e _ _; cases e
                  · injection e with e1 _ _; injection e1 with e1; injection e1 with e1; subst e1; exact ⟨cur, h2, by rw [← HXl.out]; exact h6⟩)
                have hgW : g < W.heap.size := (HXW.out.row.lt g rfl).2
                have HTake : Hid ((xC (X.take t)).length = t * 2 ∧ (xC (X.drop t)).length = (ne - t) * 2 ∧ t + 1 + (ne - t) = ne + 1) := Lib.hid (by
                  have := HXl.out
                  refine ⟨by rw [xC_len, List.length_take]; omega, by rw [xC_len, List.length_drop]; omega, by omega⟩)
                have HOne : Hid ((∀ u ∈ xC (X.take t), u.oneCell' = true) ∧ (∀ u ∈ xC (X.drop t), u.oneCell' = true) ∧ (∀ u ∈ ([.string s, .slice none 0 0] : List Value), u.oneCell' = true)) := Lib.hid (by
                  have h := HXW.out.pg.one
                  refine ⟨fun u hu => h u ?_, fun u hu => h u ?_, fun u hu => ?_⟩
                  · rw [← xC_take] at hu; exact List.mem_of_mem_take hu
                  · rw [← xC_drop] at hu; exact List.mem_of_mem_drop hu
                  · simp only [List.mem_cons, List.not_mem_nil, or_false] at hu; rcases hu with rfl | rfl <;> rfl)
                have HSrc : Hid (∀ W' : World, W'.heap[g]? = W.heap[g]? → (∀ j u, (xC (X.take t))[j]? = some u → W'.cell? ((⟨g, 0, none⟩ : Addr).add j) = some u) ∧ (∀ j u, (xC (X.drop t))[j]? = some u → W'.cell? ((⟨g, t * 2, none⟩ : Addr).add j) = some u)) := Lib.hid (fun W' hW' => by
                  obtain ⟨cur, hc, ht⟩ := HRow.out
                  have hXl := HXl.out
                  have hl := xC_len X
                  rw [← hW'] at hc
                  refine ⟨cells_of hc 0 _ (fun j hj => ?_), ?_⟩
                  · rw [← xC_take, List.length_take] at hj
                    rw [← xC_take, ← ht, List.getElem?_take, List.getElem?_take, if_pos (by omega), if_pos (by omega), Nat.zero_add]
                  · intro j u hj
                    have hlt : j < (xC (X.drop t)).length := by
                      rcases Nat.lt_or_ge j (xC (X.drop t)).length with h | h
                      · exact h
                      · rw [List.getElem?_eq_none h] at hj; cases hj
                    have hd := HTake.out.2.1
                    first
                      | (exfalso; omega)
                      | (refine cells_of hc (t * 2) (xC (X.drop t)) (fun j hj => ?_) j u hj
                         rw [← xC_drop, List.length_drop] at hj
                         rw [← xC_drop, ← ht, List.getElem?_drop, List.getElem?_take, if_pos (by omega)]))
                have HO1 : Hid ((W.alloc (.cells #[] 40)).ownsRow W.heap.size 40 2 (.slice (some ⟨W.heap.size, 0, none⟩) 0 0) 0 []) := Lib.hid (World.ownsRow_lit W #[] 0 (Nat.le_refl _) (Nat.zero_le _) rfl)
                have HB1 : Hid (Below W.heap.size W (W.alloc (.cells #[] 40))) := Lib.hid ((Below.refl _ _).alloc (Nat.le_refl _) _)
                have ht40 : t ≤ 40 := by omega
                have hbW : b < W.heap.size := by omega
                have HM0 := Lib.hid m0
                go_wp2_with (first
                  | (at_builtin; refine wpList_append_ent rfl _ _ rfl W.heap.size v2 (t + 1) (xC (X.take t) ++ [.string s, .slice none 0 0]) H2.out rfl ⟨g, t * 2, none⟩ (ne - t) (ocap - t) (xC (X.drop t)) rfl HTake.out.2.1 (HSrc.out _ (HB2.out.block g hgW)).2 HOne.out.2.1 (by omega) HB2.out.size ?_; intro v3 w3 h3 g3 x3; have H3 := Lib.hid h3; have HB3 : Hid (Below W.heap.size W w3) := Lib.hid (HB2.out.grown g3 HB2.out.size (fun j hj => (H2.out.lt j hj).1)); clear h3 g3 x3)
                  | (at_builtin; refine wpList_append_ent rfl _ _ rfl W.heap.size v1 t (xC (X.take t)) (H1.out.alloc _) rfl ⟨w1.heap.size, 0, none⟩ 1 1 [.string s, .slice none 0 0] rfl rfl cell_litE HOne.out.2.2 (by omega) (by have := HB11.out.size; simp; omega) ?_; intro v2 w2 h2 g2 x2; have H2 := Lib.hid h2; have HB2 : Hid (Below W.heap.size W w2) := Lib.hid ((HB11.out.alloc HB11.out.size _).grown g2 (by have := HB11.out.size; simp; omega) (fun j hj => (H1.out.lt j hj).1)); clear h2 g2 x2)
                  | (at_builtin; refine wpList_append_ent rfl _ _ rfl W.heap.size (.slice (some ⟨W.heap.size, 0, none⟩) 0 0) 0 [] HO1.out rfl ⟨g, 0, none⟩ t ocap (xC (X.take t)) rfl HTake.out.1 (HSrc.out _ (HB1.out.block g hgW)).1 HOne.out.1 (by omega) HB1.out.size ?_; intro v1 w1 h1 g1 x1; have H1 : Hid (w1.ownsRow W.heap.size 40 2 v1 t (xC (X.take t))) := Lib.hid (by rw [Nat.zero_add, List.nil_append] at h1; exact h1); have HB11 : Hid (Below W.heap.size W w1) := Lib.hid (HB1.out.grown g1 HB1.out.size (fun j hj => (HO1.out.lt j hj).1)); have m0 : w1.cell? ⟨b, off + k * 2, none⟩ = some (.string s) := ((bcell HB11.out).1 _ _ hbW).trans HM0.out; clear h1 g1 x1))
                have hr3 := H3.out
                try rw [HTake.out.2.2] at hr3
                have hg3 : W.grownBy w3 (Value.slice (some ⟨g, 0, none⟩) ne ocap).ownBlock := ⟨HB3.out.os, HB3.out.tape, HB3.out.output, HB3.out.size, fun j hj _ => HB3.out.block j hj⟩
                have HX3 := Lib.hid (HXW.out.inserted (word := s) (HXl.out).symm ht (by
                  rw [xC_take, xC_drop]
                  have h3 := row_low hr3 hWs
                  rw [List.append_assoc] at h3
                  exact h3) hg3 (fun j hj => .inr (hr3.lt j hj).1))
                have HBl : Hid (Below w.heap.size w w3) := Lib.hid (HBW.out.trans (HB3.out.mono hWs))
                obtain ⟨Y, hY⟩ : ∃ Y, X.take t ++ ((s, []), Value.slice none 0 0) :: X.drop t = Y := ⟨_, rfl⟩
                have hYl : Y.length = ne + 1 := by rw [← hY]; simp; have := HXl.out; omega
                have hYk : Y[t]'(by omega) = ((s, []), Value.slice none 0 0) := by
                  have h := ins_at X ((s, []), Value.slice none 0 0) t (by rw [HXl.out]; exact ht)
                  rw [hY, List.getElem?_eq_getElem (by omega)] at h
                  exact Option.some.inj h
                have HR : Hid (∃ g' cap' ak ck lk, v3 = .slice (some ⟨g', 0, none⟩) Y.length cap' ∧ Rdy w.heap.size w w3 g' t Y.length cap' lk ak ck s p (addP E s [p]) Y) := Lib.hid (by
                  have hX3 := HX3.out
                  rw [hY] at hX3
                  refine rdy_of hX3 (by omega) (by rw [hYk]) HBl.out (by rw [hYk]; simp) (fun u => ?_)
                  rw [HEt.out.2 HPn.out, hYk, ← hY, ins_set X _ _ t (by rw [HXl.out]; exact ht), ← HXE.out]
                  simp [xE, uni])
                obtain ⟨g', cap', ak, ck, lk, rfl, HQ⟩ := HR.out
                clear HR
                have HR := HQ
                clear HQ
                rw [hYl] at HR ⊢
                have m1 : w3.cell? ⟨b, off + k * 2 + 1, none⟩ = some (.int .i64 p) := ((bcell HB3.out).1 _ _ hbW).trans m1
                have HB0 := Lib.hid (HBW.out.size)
                clear m0 hr3 hg3 HX3 hY hYl hYk HO1 HB1 H1 H2 H3 HB11 HB2 HB3 HSrc HOne HTake HRow HXW HBl HEt HPn HM0
                obtain ⟨X0, hX0⟩ : ∃ X0, Y = X0 := ⟨_, rfl⟩
                rw [hX0] at HR
                clear hX0
                have hR := HR
                have HR := Lib.hid HR
                have c1 := hR.c1
                have htn := hR.tn
                have hnc := hR.nc
                have hcm := hR.cm
                unfold maxLen at hcm
                have hWs : w.heap.size ≤ w3.heap.size := hR.bel.size
                have HNum := Lib.hid (hR.step hWs (W' := w3.drew) rfl (Below.refl _ _).drew)
                have HL : Hid ((addP E s [p]).length = (ne + 1)) := Lib.hid (by
                  have h2 := congrArg List.length (hR.fin (.slice none 0 0))
                  rw [xE_len, List.length_set, hR.len] at h2
                  exact h2.symm)
                clear hR
                go_wp2_with fail
                go_region_with (go_at_call 51; refine HNum.out.mono ?_; rintro e w3 ⟨a3, m3, k3, rfl, c3, f3, HF3⟩)
                all_goals
                  have HF4 : Hid (OwnE w.heap.size (w3.setCell ⟨g', t * 2 + 1, none⟩ (.slice a3 m3 k3)).heap.size (w3.setCell ⟨g', t * 2 + 1, none⟩ (.slice a3 m3 k3)) (.slice (some ⟨g', 0, none⟩) (colF M (k + 1)).length cap') (colF M (k + 1)) ∧ Below w.heap.size w (w3.setCell ⟨g', t * 2 + 1, none⟩ (.slice a3 m3 k3)) ∧ (ne + 1) = (colF M (k + 1)).length) := Lib.hid (by
                    rw [HSk.out, HL.out]; exact ⟨HF3.out.1, HF3.out.2, rfl⟩)
                  clear HNum c1 m1 c3 f3 HF3
                  go_wp2_with fail
                  go_roundw
                  case rel => exact ⟨k + 1, g', cap', by omega, by go_num, by rw [← HF4.out.2.2], HF4.out.1, HF4.out.2.1⟩
                  case measure => simp [intOf]; omega
          · obtain rfl : t = ne := by omega
            have HEt := Lib.hid (HAt.out t (by rw [HNe.out]; exact ht) (fun j h hj => by
                have := HT.out j hj
                simpa [ew, List.getD_eq_getElem?_getD, h] using this) (fun h => by rw [HNe.out] at h; omega))
            have hte : ((t : Int) == (t : Int)) = true := by simp
            have HPn : Hid (t = E.length ∨ ∃ h : t < E.length, E[t].1 ≠ s) := Lib.hid (.inl HNe.out.symm)
            clear HT HAt HSucc HOk
            go_wp2_with fail
            go_quiet (fail)
            obtain ⟨q1, hq1⟩ : ∃ q1, q + nq = q1 := ⟨_, rfl⟩
            rw [World.drewN_drewN, hq1]
            clear hq1
            go_wp2_with fail
            go_quiet (fail)
            obtain ⟨q2, hq2⟩ : ∃ q2, q1 + nq = q2 := ⟨_, rfl⟩
            rw [World.drewN_drewN, hq2]
            clear hq2 hte
            by_cases hcn : ocap = t
            · subst hcn
              have HXl : Hid (X.length = ocap) := Lib.hid (by rw [← xE_len, HXE.out, HNe.out])
              have m0 : (wr.drewN q2).cell? ⟨b, off + k * 2, none⟩ = some (.string s) := m0
              have m1 : (wr.drewN q2).cell? ⟨b, off + k * 2 + 1, none⟩ = some (.int .i64 p) := m1
              have HXW : Hid (OwnX w.heap.size (wr.drewN q2) (.slice (some ⟨g, 0, none⟩) ocap ocap) X) := Lib.hid (HX.out.below (below_drewN (Below.refl _ _) q2))
              have HBW : Hid (Below w.heap.size w (wr.drewN q2)) := Lib.hid (below_drewN HB.out q2)
              have hWs : w.heap.size ≤ (wr.drewN q2).heap.size := hbs
              obtain ⟨W, hW⟩ : ∃ W, wr.drewN q2 = W := ⟨_, rfl⟩
              rw [hW] at m0 m1 HXW HBW hWs ⊢
              clear hW
              have HRow : Hid (∃ cur : Array Value, W.heap[g]? = some (.cells cur 40 (0, 0)) ∧ cur.toList.take (ocap * 2) = xC X) := Lib.hid (by
                have hr := HXW.out.row
                rcases hr.2 with ⟨e, _⟩ | ⟨g', cap', cur, e, _, h2, _, _, _, h6⟩
                · injection e with e _ _; cases e
                · injection e with e1 _ _; injection e1 with e1; injection e1 with e1; subst e1; exact ⟨cur, h2, by rw [← HXl.out]; exact h6⟩)
              have hgW : g < W.heap.size := (HXW.out.row.lt g rfl).2
              have HTake : Hid ((xC (X.take ocap)).length = ocap * 2 ∧ (xC (X.drop ocap)).length = 0 * 2 ∧ ocap + 1 + 0 = ocap + 1) := Lib.hid (by
                have := HXl.out
                refine ⟨by rw [xC_len, List.length_take]; omega, by rw [xC_len, List.length_drop]; omega, by omega⟩)
              have HOne : Hid ((∀ u ∈ xC (X.take ocap), u.oneCell' = true) ∧ (∀ u ∈ xC (X.drop ocap), u.oneCell' = true) ∧ (∀ u ∈ ([.string s, .slice none 0 0] : List Value), u.oneCell' = true)) := Lib.hid (by
                have h := HXW.out.pg.one
                refine ⟨fun u hu => h u ?_, fun u hu => h u ?_, fun u hu => ?_⟩
                · rw [← xC_take] at hu; exact List.mem_of_mem_take hu
                · rw [← xC_drop] at hu; exact List.mem_of_mem_drop hu
                · simp only [List.mem_cons, List.not_mem_nil, or_false] at hu; rcases hu with rfl | rfl <;> rfl)
              have HSrc : Hid (∀ W' : World, W'.heap[g]? = W.heap[g]? → (∀ j u, (xC (X.take ocap))[j]? = some u → W'.cell? ((⟨g, 0, none⟩ : Addr).add j) = some u) ∧ (∀ j u, (xC (X.drop ocap))[j]? = some u → W'.cell? ((⟨g, 0, none⟩ : Addr).add j) = some u)) := Lib.hid (fun W' hW' => by
                obtain ⟨cur, hc, ht⟩ := HRow.out
                have hXl := HXl.out
                have hl := xC_len X
                rw [← hW'] at hc
                refine ⟨cells_of hc 0 _ (fun j hj => ?_), ?_⟩
                · rw [← xC_take, List.length_take] at hj
                  rw [← xC_take, ← ht, List.getElem?_take, List.getElem?_take, if_pos (by omega), if_pos (by omega), Nat.zero_add]
                · intro j u hj
                  have hlt : j < (xC (X.drop ocap)).length := by
                    rcases Nat.lt_or_ge j (xC (X.drop ocap)).length with h | h
                    · exact h
                    · rw [List.getElem?_eq_none h] at hj; cases hj
                  have hd := HTake.out.2.1
                  first
                    | (exfalso; omega)
                    | (refine cells_of hc (ocap * 2) (xC (X.drop ocap)) (fun j hj => ?_) j u hj
                       rw [← xC_drop, List.length_drop] at hj
                       rw [← xC_drop, ← ht, List.getElem?_drop, List.getElem?_take, if_pos (by omega)]))
              have HO1 : Hid ((W.alloc (.cells #[] 40)).ownsRow W.heap.size 40 2 (.slice (some ⟨W.heap.size, 0, none⟩) 0 0) 0 []) := Lib.hid (World.ownsRow_lit W #[] 0 (Nat.le_refl _) (Nat.zero_le _) rfl)
              have HB1 : Hid (Below W.heap.size W (W.alloc (.cells #[] 40))) := Lib.hid ((Below.refl _ _).alloc (Nat.le_refl _) _)
              have ht40 : ocap ≤ 40 := by omega
              have hbW : b < W.heap.size := by omega
              have HM0 := Lib.hid m0
              go_wp2_with (first
                | (at_builtin; refine wpList_append_ent rfl _ _ rfl W.heap.size v2 (ocap + 1) (xC (X.take ocap) ++ [.string s, .slice none 0 0]) H2.out rfl ⟨g, 0, none⟩ 0 0 (xC (X.drop ocap)) rfl HTake.out.2.1 (HSrc.out _ (HB2.out.block g hgW)).2 HOne.out.2.1 (by omega) HB2.out.size ?_; intro v3 w3 h3 g3 x3; have H3 := Lib.hid h3; have HB3 : Hid (Below W.heap.size W w3) := Lib.hid (HB2.out.grown g3 HB2.out.size (fun j hj => (H2.out.lt j hj).1)); clear h3 g3 x3)
                | (at_builtin; refine wpList_append_ent rfl _ _ rfl W.heap.size v1 ocap (xC (X.take ocap)) (H1.out.alloc _) rfl ⟨w1.heap.size, 0, none⟩ 1 1 [.string s, .slice none 0 0] rfl rfl cell_litE HOne.out.2.2 (by omega) (by have := HB11.out.size; simp; omega) ?_; intro v2 w2 h2 g2 x2; have H2 := Lib.hid h2; have HB2 : Hid (Below W.heap.size W w2) := Lib.hid ((HB11.out.alloc HB11.out.size _).grown g2 (by have := HB11.out.size; simp; omega) (fun j hj => (H1.out.lt j hj).1)); clear h2 g2 x2)
                | (at_builtin; refine wpList_append_ent rfl _ _ rfl W.heap.size (.slice (some ⟨W.heap.size, 0, none⟩) 0 0) 0 [] HO1.out rfl ⟨g, 0, none⟩ ocap ocap (xC (X.take ocap)) rfl HTake.out.1 (HSrc.out _ (HB1.out.block g hgW)).1 HOne.out.1 (by omega) HB1.out.size ?_; intro v1 w1 h1 g1 x1; have H1 : Hid (w1.ownsRow W.heap.size 40 2 v1 ocap (xC (X.take ocap))) := Lib.hid (by rw [Nat.zero_add, List.nil_append] at h1; exact h1); have HB11 : Hid (Below W.heap.size W w1) := Lib.hid (HB1.out.grown g1 HB1.out.size (fun j hj => (HO1.out.lt j hj).1)); have m0 : w1.cell? ⟨b, off + k * 2, none⟩ = some (.string s) := ((bcell HB11.out).1 _ _ hbW).trans HM0.out; clear h1 g1 x1))
              have hr3 := H3.out
              try rw [HTake.out.2.2] at hr3
              have hg3 : W.grownBy w3 (Value.slice (some ⟨g, 0, none⟩) ocap ocap).ownBlock := ⟨HB3.out.os, HB3.out.tape, HB3.out.output, HB3.out.size, fun j hj _ => HB3.out.block j hj⟩
              have HX3 := Lib.hid (HXW.out.inserted (word := s) (HXl.out).symm ht (by
                rw [xC_take, xC_drop]
                have h3 := row_low hr3 hWs
                rw [List.append_assoc] at h3
                exact h3) hg3 (fun j hj => .inr (hr3.lt j hj).1))
              have HBl : Hid (Below w.heap.size w w3) := Lib.hid (HBW.out.trans (HB3.out.mono hWs))
              obtain ⟨Y, hY⟩ : ∃ Y, X.take ocap ++ ((s, []), Value.slice none 0 0) :: X.drop ocap = Y := ⟨_, rfl⟩
              have hYl : Y.length = ocap + 1 := by rw [← hY]; simp; have := HXl.out; omega
              have hYk : Y[ocap]'(by omega) = ((s, []), Value.slice none 0 0) := by
                have h := ins_at X ((s, []), Value.slice none 0 0) ocap (by rw [HXl.out]; exact ht)
                rw [hY, List.getElem?_eq_getElem (by omega)] at h
                exact Option.some.inj h
              have HR : Hid (∃ g' cap' ak ck lk, v3 = .slice (some ⟨g', 0, none⟩) Y.length cap' ∧ Rdy w.heap.size w w3 g' ocap Y.length cap' lk ak ck s p (addP E s [p]) Y) := Lib.hid (by
                have hX3 := HX3.out
                rw [hY] at hX3
                refine rdy_of hX3 (by omega) (by rw [hYk]) HBl.out (by rw [hYk]; simp) (fun u => ?_)
                rw [HEt.out.2 HPn.out, hYk, ← hY, ins_set X _ _ ocap (by rw [HXl.out]; exact ht), ← HXE.out]
                simp [xE, uni])
              obtain ⟨g', cap', ak, ck, lk, rfl, HQ⟩ := HR.out
              clear HR
              have HR := HQ
              clear HQ
              rw [hYl] at HR ⊢
              have m1 : w3.cell? ⟨b, off + k * 2 + 1, none⟩ = some (.int .i64 p) := ((bcell HB3.out).1 _ _ hbW).trans m1
              have HB0 := Lib.hid (HBW.out.size)
              clear m0 hr3 hg3 HX3 hY hYl hYk HO1 HB1 H1 H2 H3 HB11 HB2 HB3 HSrc HOne HTake HRow HXW HBl HEt HPn HM0
              obtain ⟨X0, hX0⟩ : ∃ X0, Y = X0 := ⟨_, rfl⟩
              rw [hX0] at HR
              clear hX0
              have hR := HR
              have HR := Lib.hid HR
              have c1 := hR.c1
              have htn := hR.tn
              have hnc := hR.nc
              have hcm := hR.cm
              unfold maxLen at hcm
              have hWs : w.heap.size ≤ w3.heap.size := hR.bel.size
              have HNum := Lib.hid (hR.step hWs (W' := w3.drew) rfl (Below.refl _ _).drew)
              have HL : Hid ((addP E s [p]).length = (ocap + 1)) := Lib.hid (by
                have h2 := congrArg List.length (hR.fin (.slice none 0 0))
                rw [xE_len, List.length_set, hR.len] at h2
                exact h2.symm)
              clear hR
              go_wp2_with fail
              go_region_with (go_at_call 51; refine HNum.out.mono ?_; rintro e w3 ⟨a3, m3, k3, rfl, c3, f3, HF3⟩)
              all_goals
                have HF4 : Hid (OwnE w.heap.size (w3.setCell ⟨g', ocap * 2 + 1, none⟩ (.slice a3 m3 k3)).heap.size (w3.setCell ⟨g', ocap * 2 + 1, none⟩ (.slice a3 m3 k3)) (.slice (some ⟨g', 0, none⟩) (colF M (k + 1)).length cap') (colF M (k + 1)) ∧ Below w.heap.size w (w3.setCell ⟨g', ocap * 2 + 1, none⟩ (.slice a3 m3 k3)) ∧ (ocap + 1) = (colF M (k + 1)).length) := Lib.hid (by
                  rw [HSk.out, HL.out]; exact ⟨HF3.out.1, HF3.out.2, rfl⟩)
                clear HNum c1 m1 c3 f3 HF3
                go_wp2_with fail
                go_roundw
                case rel => exact ⟨k + 1, g', cap', by omega, by go_num, by rw [← HF4.out.2.2], HF4.out.1, HF4.out.2.1⟩
                case measure => simp [intOf]; omega
            · skip
              have HXl : Hid (X.length = t) := Lib.hid (by rw [← xE_len, HXE.out, HNe.out])
              have m0 : (wr.drewN q2).cell? ⟨b, off + k * 2, none⟩ = some (.string s) := m0
              have m1 : (wr.drewN q2).cell? ⟨b, off + k * 2 + 1, none⟩ = some (.int .i64 p) := m1
              have HXW : Hid (OwnX w.heap.size (wr.drewN q2) (.slice (some ⟨g, 0, none⟩) t ocap) X) := Lib.hid (HX.out.below (below_drewN (Below.refl _ _) q2))
              have HBW : Hid (Below w.heap.size w (wr.drewN q2)) := Lib.hid (below_drewN HB.out q2)
              have hWs : w.heap.size ≤ (wr.drewN q2).heap.size := hbs
              obtain ⟨W, hW⟩ : ∃ W, wr.drewN q2 = W := ⟨_, rfl⟩
              rw [hW] at m0 m1 HXW HBW hWs ⊢
              clear hW
              have HRow : Hid (∃ cur : Array Value, W.heap[g]? = some (.cells cur 40 (0, 0)) ∧ cur.toList.take (t * 2) = xC X) := Lib.hid (by
                have hr := HXW.out.row
                rcases hr.2 with ⟨e, _⟩ | ⟨g', cap', cur, e, _, h2, _, _, _, h6⟩
                · injection e with e _ _; cases e
                · injection e with e1 _ _; injection e1 with e1; injection e1 with e1; subst e1; exact ⟨cur, h2, by rw [← HXl.out]; exact h6⟩)
              have hgW : g < W.heap.size := (HXW.out.row.lt g rfl).2
              have HTake : Hid ((xC (X.take t)).length = t * 2 ∧ (xC (X.drop t)).length = 0 * 2 ∧ t + 1 + 0 = t + 1) := Lib.hid (by
                have := HXl.out
                refine ⟨by rw [xC_len, List.length_take]; omega, by rw [xC_len, List.length_drop]; omega, by omega⟩)
              have HOne : Hid ((∀ u ∈ xC (X.take t), u.oneCell' = true) ∧ (∀ u ∈ xC (X.drop t), u.oneCell' = true) ∧ (∀ u ∈ ([.string s, .slice none 0 0] : List Value), u.oneCell' = true)) := Lib.hid (by
                have h := HXW.out.pg.one
                refine ⟨fun u hu => h u ?_, fun u hu => h u ?_, fun u hu => ?_⟩
                · rw [← xC_take] at hu; exact List.mem_of_mem_take hu
                · rw [← xC_drop] at hu; exact List.mem_of_mem_drop hu
                · simp only [List.mem_cons, List.not_mem_nil, or_false] at hu; rcases hu with rfl | rfl <;> rfl)
              have HSrc : Hid (∀ W' : World, W'.heap[g]? = W.heap[g]? → (∀ j u, (xC (X.take t))[j]? = some u → W'.cell? ((⟨g, 0, none⟩ : Addr).add j) = some u) ∧ (∀ j u, (xC (X.drop t))[j]? = some u → W'.cell? ((⟨g, t * 2, none⟩ : Addr).add j) = some u)) := Lib.hid (fun W' hW' => by
                obtain ⟨cur, hc, ht⟩ := HRow.out
                have hXl := HXl.out
                have hl := xC_len X
                rw [← hW'] at hc
                refine ⟨cells_of hc 0 _ (fun j hj => ?_), ?_⟩
                · rw [← xC_take, List.length_take] at hj
                  rw [← xC_take, ← ht, List.getElem?_take, List.getElem?_take, if_pos (by omega), if_pos (by omega), Nat.zero_add]
                · intro j u hj
                  have hlt : j < (xC (X.drop t)).length := by
                    rcases Nat.lt_or_ge j (xC (X.drop t)).length with h | h
                    · exact h
                    · rw [List.getElem?_eq_none h] at hj; cases hj
                  have hd := HTake.out.2.1
                  first
                    | (exfalso; omega)
                    | (refine cells_of hc (t * 2) (xC (X.drop t)) (fun j hj => ?_) j u hj
                       rw [← xC_drop, List.length_drop] at hj
                       rw [← xC_drop, ← ht, List.getElem?_drop, List.getElem?_take, if_pos (by omega)]))
              have HO1 : Hid ((W.alloc (.cells #[] 40)).ownsRow W.heap.size 40 2 (.slice (some ⟨W.heap.size, 0, none⟩) 0 0) 0 []) := Lib.hid (World.ownsRow_lit W #[] 0 (Nat.le_refl _) (Nat.zero_le _) rfl)
              have HB1 : Hid (Below W.heap.size W (W.alloc (.cells #[] 40))) := Lib.hid ((Below.refl _ _).alloc (Nat.le_refl _) _)
              have ht40 : t ≤ 40 := by omega
              have hbW : b < W.heap.size := by omega
              have HM0 := Lib.hid m0
              go_wp2_with (first
                | (at_builtin; refine wpList_append_ent rfl _ _ rfl W.heap.size v2 (t + 1) (xC (X.take t) ++ [.string s, .slice none 0 0]) H2.out rfl ⟨g, t * 2, none⟩ 0 (ocap - t) (xC (X.drop t)) rfl HTake.out.2.1 (HSrc.out _ (HB2.out.block g hgW)).2 HOne.out.2.1 (by omega) HB2.out.size ?_; intro v3 w3 h3 g3 x3; have H3 := Lib.hid h3; have HB3 : Hid (Below W.heap.size W w3) := Lib.hid (HB2.out.grown g3 HB2.out.size (fun j hj => (H2.out.lt j hj).1)); clear h3 g3 x3)
                | (at_builtin; refine wpList_append_ent rfl _ _ rfl W.heap.size v1 t (xC (X.take t)) (H1.out.alloc _) rfl ⟨w1.heap.size, 0, none⟩ 1 1 [.string s, .slice none 0 0] rfl rfl cell_litE HOne.out.2.2 (by omega) (by have := HB11.out.size; simp; omega) ?_; intro v2 w2 h2 g2 x2; have H2 := Lib.hid h2; have HB2 : Hid (Below W.heap.size W w2) := Lib.hid ((HB11.out.alloc HB11.out.size _).grown g2 (by have := HB11.out.size; simp; omega) (fun j hj => (H1.out.lt j hj).1)); clear h2 g2 x2)
                | (at_builtin; refine wpList_append_ent rfl _ _ rfl W.heap.size (.slice (some ⟨W.heap.size, 0, none⟩) 0 0) 0 [] HO1.out rfl ⟨g, 0, none⟩ t ocap (xC (X.take t)) rfl HTake.out.1 (HSrc.out _ (HB1.out.block g hgW)).1 HOne.out.1 (by omega) HB1.out.size ?_; intro v1 w1 h1 g1 x1; have H1 : Hid (w1.ownsRow W.heap.size 40 2 v1 t (xC (X.take t))) := Lib.hid (by rw [Nat.zero_add, List.nil_append] at h1; exact h1); have HB11 : Hid (Below W.heap.size W w1) := Lib.hid (HB1.out.grown g1 HB1.out.size (fun j hj => (HO1.out.lt j hj).1)); have m0 : w1.cell? ⟨b, off + k * 2, none⟩ = some (.string s) := ((bcell HB11.out).1 _ _ hbW).trans HM0.out; clear h1 g1 x1))
              have hr3 := H3.out
              try rw [HTake.out.2.2] at hr3
              have hg3 : W.grownBy w3 (Value.slice (some ⟨g, 0, none⟩) t ocap).ownBlock := ⟨HB3.out.os, HB3.out.tape, HB3.out.output, HB3.out.size, fun j hj _ => HB3.out.block j hj⟩
              have HX3 := Lib.hid (HXW.out.inserted (word := s) (HXl.out).symm ht (by
                rw [xC_take, xC_drop]
                have h3 := row_low hr3 hWs
                rw [List.append_assoc] at h3
                exact h3) hg3 (fun j hj => .inr (hr3.lt j hj).1))
              have HBl : Hid (Below w.heap.size w w3) := Lib.hid (HBW.out.trans (HB3.out.mono hWs))
              obtain ⟨Y, hY⟩ : ∃ Y, X.take t ++ ((s, []), Value.slice none 0 0) :: X.drop t = Y := ⟨_, rfl⟩
              have hYl : Y.length = t + 1 := by rw [← hY]; simp; have := HXl.out; omega
              have hYk : Y[t]'(by omega) = ((s, []), Value.slice none 0 0) := by
                have h := ins_at X ((s, []), Value.slice none 0 0) t (by rw [HXl.out]; exact ht)
                rw [hY, List.getElem?_eq_getElem (by omega)] at h
                exact Option.some.inj h
              have HR : Hid (∃ g' cap' ak ck lk, v3 = .slice (some ⟨g', 0, none⟩) Y.length cap' ∧ Rdy w.heap.size w w3 g' t Y.length cap' lk ak ck s p (addP E s [p]) Y) := Lib.hid (by
                have hX3 := HX3.out
                rw [hY] at hX3
                refine rdy_of hX3 (by omega) (by rw [hYk]) HBl.out (by rw [hYk]; simp) (fun u => ?_)
                rw [HEt.out.2 HPn.out, hYk, ← hY, ins_set X _ _ t (by rw [HXl.out]; exact ht), ← HXE.out]
                simp [xE, uni])
              obtain ⟨g', cap', ak, ck, lk, rfl, HQ⟩ := HR.out
              clear HR
              have HR := HQ
              clear HQ
              rw [hYl] at HR ⊢
              have m1 : w3.cell? ⟨b, off + k * 2 + 1, none⟩ = some (.int .i64 p) := ((bcell HB3.out).1 _ _ hbW).trans m1
              have HB0 := Lib.hid (HBW.out.size)
              clear m0 hr3 hg3 HX3 hY hYl hYk HO1 HB1 H1 H2 H3 HB11 HB2 HB3 HSrc HOne HTake HRow HXW HBl HEt HPn HM0
              obtain ⟨X0, hX0⟩ : ∃ X0, Y = X0 := ⟨_, rfl⟩
              rw [hX0] at HR
              clear hX0
              have hR := HR
              have HR := Lib.hid HR
              have c1 := hR.c1
              have htn := hR.tn
              have hnc := hR.nc
              have hcm := hR.cm
              unfold maxLen at hcm
              have hWs : w.heap.size ≤ w3.heap.size := hR.bel.size
              have HNum := Lib.hid (hR.step hWs (W' := w3.drew) rfl (Below.refl _ _).drew)
              have HL : Hid ((addP E s [p]).length = (t + 1)) := Lib.hid (by
                have h2 := congrArg List.length (hR.fin (.slice none 0 0))
                rw [xE_len, List.length_set, hR.len] at h2
                exact h2.symm)
              clear hR
              go_wp2_with fail
              go_region_with (go_at_call 51; refine HNum.out.mono ?_; rintro e w3 ⟨a3, m3, k3, rfl, c3, f3, HF3⟩)
              all_goals
                have HF4 : Hid (OwnE w.heap.size (w3.setCell ⟨g', t * 2 + 1, none⟩ (.slice a3 m3 k3)).heap.size (w3.setCell ⟨g', t * 2 + 1, none⟩ (.slice a3 m3 k3)) (.slice (some ⟨g', 0, none⟩) (colF M (k + 1)).length cap') (colF M (k + 1)) ∧ Below w.heap.size w (w3.setCell ⟨g', t * 2 + 1, none⟩ (.slice a3 m3 k3)) ∧ (t + 1) = (colF M (k + 1)).length) := Lib.hid (by
                  rw [HSk.out, HL.out]; exact ⟨HF3.out.1, HF3.out.2, rfl⟩)
                clear HNum c1 m1 c3 f3 HF3
                go_wp2_with fail
                go_roundw
                case rel => exact ⟨k + 1, g', cap', by omega, by go_num, by rw [← HF4.out.2.2], HF4.out.1, HF4.out.2.1⟩
                case measure => simp [intOf]; omega
      · obtain rfl : k = n := by omega
        have hF : Hid (GaveE (colS M) w (.returned (.slice (some ⟨g, 0, none⟩) (colF M k).length ocap)) wr) := Lib.hid (by rw [HCol.out]; exact ⟨_, rfl, HO.out, HB.out⟩)
        clear HO
        generalize (colF M k).length = nn at *
        go_wp2_with fail
        go_ret
        exact hF.out
end Go.Proofs.YtflnbpiegcepcaaDoor

import Derived.Test.YtiapdpbcnbgdmaaYa
set_option linter.unusedVariables false
set_option linter.unusedSimpArgs false
namespace Go.Proofs.Ytiapdpbcnbgdmaa
open Go.RowKit

theorem record_any (n i : Int) (w : World) : Calls Try.prog 43 #[.int .i64 n, .int .i64 i] w fun e w' => e = .returned (.bool (decide (0 ≤ i ∧ i < n))) ∧ w = w' := by
  by_cases h0 : 0 ≤ i
  · have hb : decide (0 ≤ i ∧ i < n) = decide (i < n) := by simp [h0]
    rw [hb]
    go_enter Try.func43, Try.ntmps43
    go_wp2
    all_goals (go_ret; first | exact ⟨rfl, rfl⟩ | (refine ⟨ret_bool ?_, rfl⟩; simp; omega))
  · have hb : decide (0 ≤ i ∧ i < n) = false := by simp; omega
    rw [hb]
    go_enter Try.func43, Try.ntmps43
    go_wp2
    all_goals (go_ret; first | exact ⟨rfl, rfl⟩ | (refine ⟨ret_bool ?_, rfl⟩; simp; omega))
set_option maxHeartbeats 1000000 in
theorem refValid_any (A : Option Addr) (n c : Nat) (l : List Int) (w : World) (h : RInts w A n l) :
    Calls Try.prog 36 #[.slice A n c] w fun e w' => e = .returned (.bool (validB l)) ∧ Ext w w' := by
  have hbig := h.big
  have hl := Lib.hid h.len
  by_cases h2 : n ≤ 2000
  · go_enter Try.func36, Try.ntmps36
    go_wp2
    go_loopw [3] (fun t wr => ∃ k : Nat, k ≤ n ∧ t = .int .i64 k ∧ Hid (∀ i, i < k → vAt l i) ∧ Ext w wr) (fun t _ => n - (intOf t).toNat)
    case atStart => exact ⟨0, Nat.zero_le _, rfl, Lib.hid (fun j hj => absurd hj (Nat.not_lt_zero _)), ⟨rfl, rfl, rfl, Nat.le_refl _, fun _ _ => rfl⟩⟩
    case round =>
      obtain ⟨k, hk, rfl, hI, hx⟩ := hrel
      by_cases hlt : k < n
      · obtain ⟨b, off, rfl, hcell⟩ := h.cell (by omega)
        have q1 := cell_ext hx (hcell k hlt)
        by_cases h0 : nth l k < 0
        · have hd : decide (nth l k < 0) = true := decide_eq_true h0
          have hfin := Lib.hid (validB_bad hl hlt (fun hv => by have := hv.1; omega))
          clear hcell hI
          go_wp2
          go_quiet (fail)
          go_wp2
          go_ret
          exact ⟨by rw [hfin.out]; rfl, Ext.trans hx (ext_drewN _ _)⟩
        · have hd0 : decide (nth l k < 0) = false := decide_eq_false h0
          by_cases h1 : (k : Int) < nth l k
          · have hd : decide ((k : Int) < nth l k) = true := decide_eq_true h1
            have hfin := Lib.hid (validB_bad hl hlt (fun hv => by have := hv.2.1; omega))
            clear hcell hI
            go_wp2
            go_quiet (fail)
            go_wp2
            go_ret
            exact ⟨by rw [hfin.out]; rfl, Ext.trans hx (ext_drewN _ _)⟩
          · have hd1 : decide ((k : Int) < nth l k) = false := decide_eq_false h1
            have q2 := cell_ext hx (hcell (nth l k).toNat (by omega))
            have hnn : (((nth l k).toNat : Nat) : Int) = nth l k := Int.toNat_of_nonneg (by omega)
            by_cases h3 : nth l (nth l k).toNat = nth l k
            · have hb := bne_f h3
              have HI := hid_succ hI (show vAt l k from ⟨by omega, by omega, h3⟩)
              rw [h3] at q2
              clear hcell hI h3 hb
              go_wp2
              go_quiet (fail)
              go_wp2
              go_roundw
              case rel => exact ⟨k + 1, by omega, by go_num, HI, Ext.trans hx (ext_drewN _ _)⟩
              case measure => (simp [intOf]; omega)
            · have hb := bne_t h3
              have hfin := Lib.hid (validB_bad hl hlt (fun hv => h3 hv.2.2))
              clear hcell hI
              go_wp2
              go_quiet (fail)
              go_wp2
              go_ret
              exact ⟨by rw [hfin.out]; rfl, Ext.trans hx (ext_drewN _ _)⟩
      · obtain rfl : k = n := by omega
        have hfin := Lib.hid (validB_end hl hI)
        clear hI
        go_wp2
        go_ret
        refine ⟨by rw [hfin.out]; exact ret_bool (by simp; omega), hx⟩
  · have hb : validB l = false := by
      unfold validB
      rw [decide_eq_false_iff_not]
      intro hv
      have := hv.2
      rw [hl.out] at this
      exact h2 this
    rw [hb]
    go_enter Try.func36, Try.ntmps36
    go_wp2
    go_ret
    exact ⟨rfl, ⟨rfl, rfl, rfl, Nat.le_refl _, fun _ _ => rfl⟩⟩
/-- the weight between two clusters, by the first k edges -/
def betC (mk : List Int) (a b : Int) (e : E3) : Prop := (nth mk e.a.toNat = a ∧ nth mk e.b.toNat = b) ∨ (nth mk e.a.toNat = b ∧ nth mk e.b.toNat = a)
instance (mk : List Int) (a b : Int) (e : E3) : Decidable (betC mk a b e) := by unfold betC; infer_instance
def betTo (es : List E3) (mk : List Int) (a b : Int) : Nat → Int
  | 0 => 0
  | k + 1 => betTo es mk a b k + if betC mk a b (eth es k) then (eth es k).w else 0
theorem betTo_range {es : List E3} {mk : List Int} {a b : Int} {m n : Nat} (hg : GoodE m es n) : ∀ k, k ≤ n → -(1000000000 * (k : Int)) ≤ betTo es mk a b k ∧ betTo es mk a b k ≤ 1000000000 * (k : Int)
  | 0, _ => ⟨Int.le_refl _, Int.le_refl _⟩
  | k + 1, hk => by
    have h1 := betTo_range (mk := mk) (a := a) (b := b) hg k (by omega)
    obtain ⟨_, h2, h3⟩ := hg.1 k (by omega)
    rw [betTo]
    split <;> omega
set_option maxHeartbeats 2000000 in
theorem between_any (A : Option Addr) (n c : Nat) (es : List E3) (A1 : Option Addr) (m c1 : Nat) (mk : List Int) (x y : Int) (w : World) (h : REdges w A n es) (h1 : RInts w A1 m mk) (hg : GoodE m es n) :
    Calls Try.prog 59 #[.slice A n c, .slice A1 m c1, .int .i64 x, .int .i64 y] w fun e w' => e = .returned (.int .i64 (betTo es mk x y n)) ∧ w = w' := by
  have hbig := h.big
  have hn := hg.2
  go_enter Try.func59, Try.ntmps59
  go_wp2
  go_loopw [9, 10, 11, 12] (fun s t _ _ wr => ∃ k : Nat, k ≤ n ∧ t = .int .i64 k ∧ s = .int .i64 (betTo es mk x y k) ∧ w = wr) (fun _ t _ _ _ => n - (intOf t).toNat)
  case atStart => exact ⟨0, Nat.zero_le _, rfl, rfl, rfl⟩
  case round =>
    obtain ⟨k, hk, rfl, rfl, rfl⟩ := hrel
    by_cases hlt : k < n
    · obtain ⟨b, off, rfl, hcell⟩ := h.cell (by omega)
      obtain ⟨k1, k2, k3⟩ := hcell k hlt
      obtain ⟨⟨a0, a1, b0, b1⟩, w1, w2⟩ := hg.1 k hlt
      have hr := betTo_range (mk := mk) (a := x) (b := y) hg k (by omega)
      have hstep : betTo es mk x y (k + 1) = betTo es mk x y k + if betC mk x y (eth es k) then (eth es k).w else 0 := rfl
      obtain ⟨ea, eb, ew, hE⟩ : ∃ ea eb ew, Hid (eth es k = ⟨ea, eb, ew⟩) := ⟨_, _, _, rfl⟩
      rw [hE.out] at k1 k2 k3 a0 a1 b0 b1 w1 w2 hstep
      dsimp only at k1 k2 k3 a0 a1 b0 b1 w1 w2 hstep
      obtain ⟨b', off', rfl, hcell'⟩ := h1.cell (by omega)
      have d1 := hcell' ea.toNat (by omega)
      have d2 := hcell' eb.toNat (by omega)
      have han : ((ea.toNat : Nat) : Int) = ea := Int.toNat_of_nonneg a0
      have hbn : ((eb.toNat : Nat) : Int) = eb := Int.toNat_of_nonneg b0
      obtain ⟨s, hs⟩ : ∃ s, Hid (betTo es mk x y k = s) := ⟨_, rfl⟩
      rw [hs.out] at hr hstep ⊢
      obtain ⟨u, hu⟩ : ∃ u, Hid (nth mk ea.toNat = u) := ⟨_, rfl⟩
      obtain ⟨v, hv⟩ : ∃ v, Hid (nth mk eb.toNat = v) := ⟨_, rfl⟩
      have hB : betC mk x y ⟨ea, eb, ew⟩ ↔ ((u = x ∧ v = y) ∨ (u = y ∧ v = x)) := by unfold betC; simp only; rw [hu.out, hv.out]
      have HB := Lib.hid hB
      rw [hu.out] at d1
      rw [hv.out] at d2
      clear hB
      have HS := Lib.hid hstep
      clear hcell hcell' hstep
      have hval : betTo es mk x y (k + 1) = s + (if (u = x ∧ v = y) ∨ (u = y ∧ v = x) then ew else 0) := by
        rw [HS.out]
        congr 1
        by_cases hc : (u = x ∧ v = y) ∨ (u = y ∧ v = x)
        · rw [if_pos hc, if_pos (HB.out.2 hc)]
        · rw [if_neg hc, if_neg (fun h => hc (HB.out.1 h))]
      have HV := Lib.hid hval
      clear hval
      cases f1 : (u == x) <;> cases f2 : (v == y) <;> cases f3 : (u == y) <;> cases f4 : (v == x)
      all_goals (
        have g1 := f1
        have g2 := f2
        have g3 := f3
        have g4 := f4
        simp only [beq_iff_eq, beq_eq_false_iff_ne, ne_eq] at g1 g2 g3 g4
        have HG := Lib.hid (And.intro g1 (And.intro g2 (And.intro g3 g4)))
        clear g1 g2 g3 g4
        go_wp2
        go_roundw
        case rel =>
          obtain ⟨g1, g2, g3, g4⟩ := HG.out
          exact ⟨k + 1, by omega, by go_num, by rw [HV.out]; congr 1; (split <;> omega), by trivial⟩
        case measure => (simp [intOf]; omega))
    · obtain rfl : k = n := by omega
      go_wp2
      go_ret
      exact ⟨rfl, rfl⟩

theorem linkedB_bad {m : Int} {es : List E3} {n k : Nat} (hl : Hid (es.length = n)) (hk : k < n) (h : badE m (eth es k).a (eth es k).b (eth es k).w = true) : linkedB m es = false := by
  rw [← Bool.not_eq_true, linkedB_all]
  rintro ⟨_, h'⟩
  have hk : k < es.length := by rw [hl.out]; exact hk
  have ej : eth es k = es[k] := by simp [eth, List.getD_eq_getElem?_getD, List.getElem?_eq_getElem hk]
  rw [ej, h' _ (List.getElem_mem hk)] at h
  cases h
theorem linkedB_end {m : Int} {es : List E3} {n : Nat} (hl : Hid (es.length = n)) (h2 : n ≤ 20000) (h : Hid (∀ i, i < n → badE m (eth es i).a (eth es i).b (eth es i).w = false)) : linkedB m es = true := by
  rw [linkedB_all]
  refine ⟨by rw [hl.out]; exact h2, fun e he => ?_⟩
  obtain ⟨j, hj, e1⟩ := List.getElem_of_mem he
  have ej : eth es j = e := by simp [eth, List.getD_eq_getElem?_getD, List.getElem?_eq_getElem hj, e1]
  rw [← ej]
  exact h.out j (by rw [← hl.out]; exact hj)
set_option maxRecDepth 100000 in
set_option maxHeartbeats 8000000 in
theorem refLinked_any (m : Int) (A : Option Addr) (n c : Nat) (es : List E3) (w : World) (h : REdges w A n es) :
    Calls Try.prog 37 #[.int .i64 m, .slice A n c] w fun e w' => e = .returned (.bool (linkedB m es)) ∧ Ext w w' := by
  have hbig := h.big
  have hl := Lib.hid h.len
  by_cases h2 : n ≤ 20000
  · go_enter Try.func37, Try.ntmps37
    go_wp2
    go_loopw [5] (fun t wr => ∃ k : Nat, k ≤ n ∧ t = .int .i64 k ∧ Hid (∀ i, i < k → badE m (eth es i).a (eth es i).b (eth es i).w = false) ∧ Ext w wr) (fun t _ => n - (intOf t).toNat)
    case atStart => exact ⟨0, Nat.zero_le _, rfl, Lib.hid (fun j hj => absurd hj (Nat.not_lt_zero _)), ⟨rfl, rfl, rfl, Nat.le_refl _, fun _ _ => rfl⟩⟩
    case round =>
      obtain ⟨k, hk, rfl, hI, hx⟩ := hrel
      by_cases hlt : k < n
      · obtain ⟨b, off, rfl, hcell⟩ := h.cell (by omega)
        have k1 : wr.drew.cell? _ = _ := cell_ext hx (hcell k hlt).1
        have k2 : wr.drew.cell? _ = _ := cell_ext hx (hcell k hlt).2.1
        have k3 : wr.drew.cell? _ = _ := cell_ext hx (hcell k hlt).2.2
        have hbad := fun hb => linkedB_bad (m := m) hl hlt hb
        have hgood := fun hb => hid_succ (P := fun i => badE m (eth es i).a (eth es i).b (eth es i).w = false) hI hb
        obtain ⟨ea, eb, ew, hE⟩ : ∃ ea eb ew, Hid (eth es k = ⟨ea, eb, ew⟩) := ⟨_, _, _, rfl⟩
        rw [hE.out] at k1 k2 k3 hbad hgood
        dsimp only at k1 k2 k3 hbad hgood
        clear hcell hI
        go_wp2
        cases hA : decide (0 ≤ ea ∧ ea < m)
        · have hfin := Lib.hid (hbad (by unfold badE; simp only [decide_eq_false_iff_not] at hA; rw [decide_eq_true_iff]; omega))
          clear hbad hgood
          refine wp_region_flow 47 [] (fun _ W => W = wr.drew) (by kernel_rfl) (by kernel_rfl) rfl ?_
          simp only [List.take_succ_cons, List.take_zero, List.drop_succ_cons, List.drop_zero]
          refine flow_pure (.int .i64 m) rfl rfl (fun b W hW => by cases hW; simp [go_sem]) ?_
          refine flow_pure (.slice (some ⟨b, off, none⟩) n c) rfl rfl (fun b W hW => by cases hW; simp [go_sem]) ?_
          refine flow_pure (.int .i64 k) rfl rfl (fun b W hW => by cases hW; simp [go_sem]) ?_
          refine flow_pure (.pointer (some ⟨b, off + k * 3, none⟩)) rfl rfl (fun b W hW => by cases hW; simp [go_sem, hlt]) ?_
          refine flow_pure (.pointer (some ⟨b, off + k * 3, none⟩)) rfl rfl (fun b W hW => by cases hW; simp [go_sem]) ?_
          refine flow_pure (.int .i64 ea) rfl rfl (fun b W hW => by cases hW; simp [go_sem, k1]) ?_
          refine flow_call (.bool false) 43 #[.int .i64 m, .int .i64 ea] rfl rfl (fun b W hW => by cases hW; simp [go_sem]) (fun b W hW => (record_any m ea W).mono (by rintro e W' ⟨rfl, rfl⟩; exact ⟨by rw [hA], hW⟩)) ?_
          refine flow_pure (.bool true) rfl rfl (fun b W hW => by cases hW; simp [go_sem]) ?_
          refine flow_pure (.bool true) rfl rfl (fun b W hW => by cases hW; simp [go_sem]) ?_
          refine flow_skip (by kernel_rfl) rfl ?_
          refine flow_skip (by kernel_rfl) rfl ?_
          refine flow_skip (by kernel_rfl) rfl ?_
          refine flow_skip (by kernel_rfl) rfl ?_
          refine flow_skip (by kernel_rfl) rfl ?_
          refine flow_skip (by kernel_rfl) rfl ?_
          refine flow_skip (by kernel_rfl) rfl ?_
          refine flow_skip (by kernel_rfl) rfl ?_
          refine flow_pure (.bool true) rfl rfl (fun b W hW => by cases hW; simp [go_sem]) ?_
          refine flow_pure (.bool true) rfl rfl (fun b W hW => by cases hW; simp [go_sem]) ?_
          refine flow_skip (by kernel_rfl) rfl ?_
          refine flow_skip (by kernel_rfl) rfl ?_
          refine flow_skip (by kernel_rfl) rfl ?_
          refine flow_skip (by kernel_rfl) rfl ?_
          refine flow_skip (by kernel_rfl) rfl ?_
          refine flow_skip (by kernel_rfl) rfl ?_
          refine flow_skip (by kernel_rfl) rfl ?_
          refine flow_skip (by kernel_rfl) rfl ?_
          refine flow_skip (by kernel_rfl) rfl ?_
          refine flow_skip (by kernel_rfl) rfl ?_
          refine flow_skip (by kernel_rfl) rfl ?_
          refine flow_pure (.bool true) rfl rfl (fun b W hW => by cases hW; simp [go_sem]) ?_
          refine flow_pure (.bool true) rfl rfl (fun b W hW => by cases hW; simp [go_sem]) ?_
          refine flow_skip (by kernel_rfl) rfl ?_
          refine flow_skip (by kernel_rfl) rfl ?_
          refine flow_skip (by kernel_rfl) rfl ?_
          refine flow_skip (by kernel_rfl) rfl ?_
          refine flow_skip (by kernel_rfl) rfl ?_
          refine flow_skip (by kernel_rfl) rfl ?_
          refine flow_pure (.bool true) rfl rfl (fun b W hW => by cases hW; simp [go_sem]) ?_
          refine flow_pure (.bool true) rfl rfl (fun b W hW => by cases hW; simp [go_sem]) ?_
          refine flow_skip (by kernel_rfl) rfl ?_
          refine flow_skip (by kernel_rfl) rfl ?_
          refine flow_skip (by kernel_rfl) rfl ?_
          refine flow_skip (by kernel_rfl) rfl ?_
          refine flow_skip (by kernel_rfl) rfl ?_
          refine flow_skip (by kernel_rfl) rfl ?_
          refine flow_pure (.bool true) rfl rfl (fun b W hW => by cases hW; simp [go_sem]) ?_
          refine flow_nil fun W hW => ?_
          cases hW
          go_frame
          go_wp2
          go_ret
          exact ⟨by rw [hfin.out]; rfl, Ext.trans hx (ext_drew _)⟩
        · cases hB : decide (0 ≤ eb ∧ eb < m)
          · have hfin := Lib.hid (hbad (by unfold badE; simp only [decide_eq_false_iff_not] at hB; rw [decide_eq_true_iff]; omega))
            clear hbad hgood
            refine wp_region_flow 47 [] (fun _ W => W = wr.drew) (by kernel_rfl) (by kernel_rfl) rfl ?_
            simp only [List.take_succ_cons, List.take_zero, List.drop_succ_cons, List.drop_zero]
            refine flow_pure (.int .i64 m) rfl rfl (fun b W hW => by cases hW; simp [go_sem]) ?_
            refine flow_pure (.slice (some ⟨b, off, none⟩) n c) rfl rfl (fun b W hW => by cases hW; simp [go_sem]) ?_
            refine flow_pure (.int .i64 k) rfl rfl (fun b W hW => by cases hW; simp [go_sem]) ?_
            refine flow_pure (.pointer (some ⟨b, off + k * 3, none⟩)) rfl rfl (fun b W hW => by cases hW; simp [go_sem, hlt]) ?_
            refine flow_pure (.pointer (some ⟨b, off + k * 3, none⟩)) rfl rfl (fun b W hW => by cases hW; simp [go_sem]) ?_
            refine flow_pure (.int .i64 ea) rfl rfl (fun b W hW => by cases hW; simp [go_sem, k1]) ?_
            refine flow_call (.bool true) 43 #[.int .i64 m, .int .i64 ea] rfl rfl (fun b W hW => by cases hW; simp [go_sem]) (fun b W hW => (record_any m ea W).mono (by rintro e W' ⟨rfl, rfl⟩; exact ⟨by rw [hA], hW⟩)) ?_
            refine flow_pure (.bool false) rfl rfl (fun b W hW => by cases hW; simp [go_sem]) ?_
            refine flow_pure (.bool false) rfl rfl (fun b W hW => by cases hW; simp [go_sem]) ?_
            refine flow_want (.int .i64 m) (by kernel_rfl) rfl (fun b W hW => by cases hW; simp [go_sem]) ?_
            refine flow_want (.slice (some ⟨b, off, none⟩) n c) (by kernel_rfl) rfl (fun b W hW => by cases hW; simp [go_sem]) ?_
            refine flow_want (.int .i64 k) (by kernel_rfl) rfl (fun b W hW => by cases hW; simp [go_sem]) ?_
            refine flow_want (.pointer (some ⟨b, off + k * 3, none⟩)) (by kernel_rfl) rfl (fun b W hW => by cases hW; simp [go_sem, hlt]) ?_
            refine flow_want (.pointer (some ⟨b, off + k * 3 + 1, none⟩)) (by kernel_rfl) rfl (fun b W hW => by cases hW; simp [go_sem]) ?_
            refine flow_want (.int .i64 eb) (by kernel_rfl) rfl (fun b W hW => by cases hW; simp [go_sem, k2]) ?_
            refine flow_call_want (.bool false) 43 #[.int .i64 m, .int .i64 eb] (by kernel_rfl) rfl (fun b W hW => by cases hW; simp [go_sem]) (fun b W hW => (record_any m eb W).mono (by rintro e W' ⟨rfl, rfl⟩; exact ⟨by rw [hB], hW⟩)) ?_
            refine flow_want (.bool true) (by kernel_rfl) rfl (fun b W hW => by cases hW; simp [go_sem]) ?_
            refine flow_pure (.bool true) rfl rfl (fun b W hW => by cases hW; simp [go_sem]) ?_
            refine flow_pure (.bool true) rfl rfl (fun b W hW => by cases hW; simp [go_sem]) ?_
            refine flow_skip (by kernel_rfl) rfl ?_
            refine flow_skip (by kernel_rfl) rfl ?_
            refine flow_skip (by kernel_rfl) rfl ?_
            refine flow_skip (by kernel_rfl) rfl ?_
            refine flow_skip (by kernel_rfl) rfl ?_
            refine flow_skip (by kernel_rfl) rfl ?_
            refine flow_skip (by kernel_rfl) rfl ?_
            refine flow_skip (by kernel_rfl) rfl ?_
            refine flow_skip (by kernel_rfl) rfl ?_
            refine flow_skip (by kernel_rfl) rfl ?_
            refine flow_skip (by kernel_rfl) rfl ?_
            refine flow_pure (.bool true) rfl rfl (fun b W hW => by cases hW; simp [go_sem]) ?_
            refine flow_pure (.bool true) rfl rfl (fun b W hW => by cases hW; simp [go_sem]) ?_
            refine flow_skip (by kernel_rfl) rfl ?_
            refine flow_skip (by kernel_rfl) rfl ?_
            refine flow_skip (by kernel_rfl) rfl ?_
            refine flow_skip (by kernel_rfl) rfl ?_
            refine flow_skip (by kernel_rfl) rfl ?_
            refine flow_skip (by kernel_rfl) rfl ?_
            refine flow_pure (.bool true) rfl rfl (fun b W hW => by cases hW; simp [go_sem]) ?_
            refine flow_pure (.bool true) rfl rfl (fun b W hW => by cases hW; simp [go_sem]) ?_
            refine flow_skip (by kernel_rfl) rfl ?_
            refine flow_skip (by kernel_rfl) rfl ?_
            refine flow_skip (by kernel_rfl) rfl ?_
            refine flow_skip (by kernel_rfl) rfl ?_
            refine flow_skip (by kernel_rfl) rfl ?_
            refine flow_skip (by kernel_rfl) rfl ?_
            refine flow_pure (.bool true) rfl rfl (fun b W hW => by cases hW; simp [go_sem]) ?_
            refine flow_nil fun W hW => ?_
            cases hW
            go_frame
            go_wp2
            go_ret
            exact ⟨by rw [hfin.out]; rfl, Ext.trans hx (ext_drew _)⟩
          · by_cases hq : ea = eb
            · have hfin := Lib.hid (hbad (by unfold badE; rw [decide_eq_true_iff]; omega))
              clear hbad hgood
              refine wp_region_flow 47 [] (fun _ W => W = wr.drew) (by kernel_rfl) (by kernel_rfl) rfl ?_
              simp only [List.take_succ_cons, List.take_zero, List.drop_succ_cons, List.drop_zero]
              refine flow_pure (.int .i64 m) rfl rfl (fun b W hW => by cases hW; simp [go_sem]) ?_
              refine flow_pure (.slice (some ⟨b, off, none⟩) n c) rfl rfl (fun b W hW => by cases hW; simp [go_sem]) ?_
              refine flow_pure (.int .i64 k) rfl rfl (fun b W hW => by cases hW; simp [go_sem]) ?_
              refine flow_pure (.pointer (some ⟨b, off + k * 3, none⟩)) rfl rfl (fun b W hW => by cases hW; simp [go_sem, hlt]) ?_
              refine flow_pure (.pointer (some ⟨b, off + k * 3, none⟩)) rfl rfl (fun b W hW => by cases hW; simp [go_sem]) ?_
              refine flow_pure (.int .i64 ea) rfl rfl (fun b W hW => by cases hW; simp [go_sem, k1]) ?_
              refine flow_call (.bool true) 43 #[.int .i64 m, .int .i64 ea] rfl rfl (fun b W hW => by cases hW; simp [go_sem]) (fun b W hW => (record_any m ea W).mono (by rintro e W' ⟨rfl, rfl⟩; exact ⟨by rw [hA], hW⟩)) ?_
              refine flow_pure (.bool false) rfl rfl (fun b W hW => by cases hW; simp [go_sem]) ?_
              refine flow_pure (.bool false) rfl rfl (fun b W hW => by cases hW; simp [go_sem]) ?_
              refine flow_want (.int .i64 m) (by kernel_rfl) rfl (fun b W hW => by cases hW; simp [go_sem]) ?_
              refine flow_want (.slice (some ⟨b, off, none⟩) n c) (by kernel_rfl) rfl (fun b W hW => by cases hW; simp [go_sem]) ?_
              refine flow_want (.int .i64 k) (by kernel_rfl) rfl (fun b W hW => by cases hW; simp [go_sem]) ?_
              refine flow_want (.pointer (some ⟨b, off + k * 3, none⟩)) (by kernel_rfl) rfl (fun b W hW => by cases hW; simp [go_sem, hlt]) ?_
              refine flow_want (.pointer (some ⟨b, off + k * 3 + 1, none⟩)) (by kernel_rfl) rfl (fun b W hW => by cases hW; simp [go_sem]) ?_
              refine flow_want (.int .i64 eb) (by kernel_rfl) rfl (fun b W hW => by cases hW; simp [go_sem, k2]) ?_
              refine flow_call_want (.bool true) 43 #[.int .i64 m, .int .i64 eb] (by kernel_rfl) rfl (fun b W hW => by cases hW; simp [go_sem]) (fun b W hW => (record_any m eb W).mono (by rintro e W' ⟨rfl, rfl⟩; exact ⟨by rw [hB], hW⟩)) ?_
              refine flow_want (.bool false) (by kernel_rfl) rfl (fun b W hW => by cases hW; simp [go_sem]) ?_
              refine flow_pure (.bool false) rfl rfl (fun b W hW => by cases hW; simp [go_sem]) ?_
              refine flow_pure (.bool false) rfl rfl (fun b W hW => by cases hW; simp [go_sem]) ?_
              refine flow_want (.slice (some ⟨b, off, none⟩) n c) (by kernel_rfl) rfl (fun b W hW => by cases hW; simp [go_sem]) ?_
              refine flow_want (.int .i64 k) (by kernel_rfl) rfl (fun b W hW => by cases hW; simp [go_sem]) ?_
              refine flow_want (.pointer (some ⟨b, off + k * 3, none⟩)) (by kernel_rfl) rfl (fun b W hW => by cases hW; simp [go_sem, hlt]) ?_
              refine flow_want (.pointer (some ⟨b, off + k * 3, none⟩)) (by kernel_rfl) rfl (fun b W hW => by cases hW; simp [go_sem]) ?_
              refine flow_want (.int .i64 ea) (by kernel_rfl) rfl (fun b W hW => by cases hW; simp [go_sem, k1]) ?_
              refine flow_want (.slice (some ⟨b, off, none⟩) n c) (by kernel_rfl) rfl (fun b W hW => by cases hW; simp [go_sem]) ?_
              refine flow_want (.int .i64 k) (by kernel_rfl) rfl (fun b W hW => by cases hW; simp [go_sem]) ?_
              refine flow_want (.pointer (some ⟨b, off + k * 3, none⟩)) (by kernel_rfl) rfl (fun b W hW => by cases hW; simp [go_sem, hlt]) ?_
              refine flow_want (.pointer (some ⟨b, off + k * 3 + 1, none⟩)) (by kernel_rfl) rfl (fun b W hW => by cases hW; simp [go_sem]) ?_
              refine flow_want (.int .i64 eb) (by kernel_rfl) rfl (fun b W hW => by cases hW; simp [go_sem, k2]) ?_
              refine flow_want (.bool true) (by kernel_rfl) rfl (fun b W hW => by cases hW; simp [go_sem, hq]) ?_
              refine flow_pure (.bool true) rfl rfl (fun b W hW => by cases hW; simp [go_sem]) ?_
              refine flow_pure (.bool true) rfl rfl (fun b W hW => by cases hW; simp [go_sem]) ?_
              refine flow_skip (by kernel_rfl) rfl ?_
              refine flow_skip (by kernel_rfl) rfl ?_
              refine flow_skip (by kernel_rfl) rfl ?_
              refine flow_skip (by kernel_rfl) rfl ?_
              refine flow_skip (by kernel_rfl) rfl ?_
              refine flow_skip (by kernel_rfl) rfl ?_
              refine flow_pure (.bool true) rfl rfl (fun b W hW => by cases hW; simp [go_sem]) ?_
              refine flow_pure (.bool true) rfl rfl (fun b W hW => by cases hW; simp [go_sem]) ?_
              refine flow_skip (by kernel_rfl) rfl ?_
              refine flow_skip (by kernel_rfl) rfl ?_
              refine flow_skip (by kernel_rfl) rfl ?_
              refine flow_skip (by kernel_rfl) rfl ?_
              refine flow_skip (by kernel_rfl) rfl ?_
              refine flow_skip (by kernel_rfl) rfl ?_
              refine flow_pure (.bool true) rfl rfl (fun b W hW => by cases hW; simp [go_sem]) ?_
              refine flow_nil fun W hW => ?_
              cases hW
              go_frame
              go_wp2
              go_ret
              exact ⟨by rw [hfin.out]; rfl, Ext.trans hx (ext_drew _)⟩
            · by_cases hlo : ew < -1000000000
              · have hfin := Lib.hid (hbad (by unfold badE; rw [decide_eq_true_iff]; omega))
                clear hbad hgood
                refine wp_region_flow 47 [] (fun _ W => W = wr.drew) (by kernel_rfl) (by kernel_rfl) rfl ?_
                simp only [List.take_succ_cons, List.take_zero, List.drop_succ_cons, List.drop_zero]
                refine flow_pure (.int .i64 m) rfl rfl (fun b W hW => by cases hW; simp [go_sem]) ?_
                refine flow_pure (.slice (some ⟨b, off, none⟩) n c) rfl rfl (fun b W hW => by cases hW; simp [go_sem]) ?_
                refine flow_pure (.int .i64 k) rfl rfl (fun b W hW => by cases hW; simp [go_sem]) ?_
                refine flow_pure (.pointer (some ⟨b, off + k * 3, none⟩)) rfl rfl (fun b W hW => by cases hW; simp [go_sem, hlt]) ?_
                refine flow_pure (.pointer (some ⟨b, off + k * 3, none⟩)) rfl rfl (fun b W hW => by cases hW; simp [go_sem]) ?_
                refine flow_pure (.int .i64 ea) rfl rfl (fun b W hW => by cases hW; simp [go_sem, k1]) ?_
                refine flow_call (.bool true) 43 #[.int .i64 m, .int .i64 ea] rfl rfl (fun b W hW => by cases hW; simp [go_sem]) (fun b W hW => (record_any m ea W).mono (by rintro e W' ⟨rfl, rfl⟩; exact ⟨by rw [hA], hW⟩)) ?_
                refine flow_pure (.bool false) rfl rfl (fun b W hW => by cases hW; simp [go_sem]) ?_
                refine flow_pure (.bool false) rfl rfl (fun b W hW => by cases hW; simp [go_sem]) ?_
                refine flow_want (.int .i64 m) (by kernel_rfl) rfl (fun b W hW => by cases hW; simp [go_sem]) ?_
                refine flow_want (.slice (some ⟨b, off, none⟩) n c) (by kernel_rfl) rfl (fun b W hW => by cases hW; simp [go_sem]) ?_
                refine flow_want (.int .i64 k) (by kernel_rfl) rfl (fun b W hW => by cases hW; simp [go_sem]) ?_
                refine flow_want (.pointer (some ⟨b, off + k * 3, none⟩)) (by kernel_rfl) rfl (fun b W hW => by cases hW; simp [go_sem, hlt]) ?_
                refine flow_want (.pointer (some ⟨b, off + k * 3 + 1, none⟩)) (by kernel_rfl) rfl (fun b W hW => by cases hW; simp [go_sem]) ?_
                refine flow_want (.int .i64 eb) (by kernel_rfl) rfl (fun b W hW => by cases hW; simp [go_sem, k2]) ?_
                refine flow_call_want (.bool true) 43 #[.int .i64 m, .int .i64 eb] (by kernel_rfl) rfl (fun b W hW => by cases hW; simp [go_sem]) (fun b W hW => (record_any m eb W).mono (by rintro e W' ⟨rfl, rfl⟩; exact ⟨by rw [hB], hW⟩)) ?_
                refine flow_want (.bool false) (by kernel_rfl) rfl (fun b W hW => by cases hW; simp [go_sem]) ?_
                refine flow_pure (.bool false) rfl rfl (fun b W hW => by cases hW; simp [go_sem]) ?_
                refine flow_pure (.bool false) rfl rfl (fun b W hW => by cases hW; simp [go_sem]) ?_
                refine flow_want (.slice (some ⟨b, off, none⟩) n c) (by kernel_rfl) rfl (fun b W hW => by cases hW; simp [go_sem]) ?_
                refine flow_want (.int .i64 k) (by kernel_rfl) rfl (fun b W hW => by cases hW; simp [go_sem]) ?_
                refine flow_want (.pointer (some ⟨b, off + k * 3, none⟩)) (by kernel_rfl) rfl (fun b W hW => by cases hW; simp [go_sem, hlt]) ?_
                refine flow_want (.pointer (some ⟨b, off + k * 3, none⟩)) (by kernel_rfl) rfl (fun b W hW => by cases hW; simp [go_sem]) ?_
                refine flow_want (.int .i64 ea) (by kernel_rfl) rfl (fun b W hW => by cases hW; simp [go_sem, k1]) ?_
                refine flow_want (.slice (some ⟨b, off, none⟩) n c) (by kernel_rfl) rfl (fun b W hW => by cases hW; simp [go_sem]) ?_
                refine flow_want (.int .i64 k) (by kernel_rfl) rfl (fun b W hW => by cases hW; simp [go_sem]) ?_
                refine flow_want (.pointer (some ⟨b, off + k * 3, none⟩)) (by kernel_rfl) rfl (fun b W hW => by cases hW; simp [go_sem, hlt]) ?_
                refine flow_want (.pointer (some ⟨b, off + k * 3 + 1, none⟩)) (by kernel_rfl) rfl (fun b W hW => by cases hW; simp [go_sem]) ?_
                refine flow_want (.int .i64 eb) (by kernel_rfl) rfl (fun b W hW => by cases hW; simp [go_sem, k2]) ?_
                refine flow_want (.bool false) (by kernel_rfl) rfl (fun b W hW => by cases hW; simp [go_sem, hq]) ?_
                refine flow_pure (.bool false) rfl rfl (fun b W hW => by cases hW; simp [go_sem]) ?_
                refine flow_pure (.bool false) rfl rfl (fun b W hW => by cases hW; simp [go_sem]) ?_
                refine flow_want (.slice (some ⟨b, off, none⟩) n c) (by kernel_rfl) rfl (fun b W hW => by cases hW; simp [go_sem]) ?_
                refine flow_want (.int .i64 k) (by kernel_rfl) rfl (fun b W hW => by cases hW; simp [go_sem]) ?_
                refine flow_want (.pointer (some ⟨b, off + k * 3, none⟩)) (by kernel_rfl) rfl (fun b W hW => by cases hW; simp [go_sem, hlt]) ?_
                refine flow_want (.pointer (some ⟨b, off + k * 3 + 2, none⟩)) (by kernel_rfl) rfl (fun b W hW => by cases hW; simp [go_sem]) ?_
                refine flow_want (.int .i64 ew) (by kernel_rfl) rfl (fun b W hW => by cases hW; simp [go_sem, k3]) ?_
                refine flow_want (.bool true) (by kernel_rfl) rfl (fun b W hW => by cases hW; simp [go_sem, hlo]) ?_
                refine flow_pure (.bool true) rfl rfl (fun b W hW => by cases hW; simp [go_sem]) ?_
                refine flow_pure (.bool true) rfl rfl (fun b W hW => by cases hW; simp [go_sem]) ?_
                refine flow_skip (by kernel_rfl) rfl ?_
                refine flow_skip (by kernel_rfl) rfl ?_
                refine flow_skip (by kernel_rfl) rfl ?_
                refine flow_skip (by kernel_rfl) rfl ?_
                refine flow_skip (by kernel_rfl) rfl ?_
                refine flow_skip (by kernel_rfl) rfl ?_
                refine flow_pure (.bool true) rfl rfl (fun b W hW => by cases hW; simp [go_sem]) ?_
                refine flow_nil fun W hW => ?_
                cases hW
                go_frame
                go_wp2
                go_ret
                exact ⟨by rw [hfin.out]; rfl, Ext.trans hx (ext_drew _)⟩
              · by_cases hhi : 1000000000 < ew
                · have hfin := Lib.hid (hbad (by unfold badE; rw [decide_eq_true_iff]; omega))
                  clear hbad hgood
                  refine wp_region_flow 47 [] (fun _ W => W = wr.drew) (by kernel_rfl) (by kernel_rfl) rfl ?_
                  simp only [List.take_succ_cons, List.take_zero, List.drop_succ_cons, List.drop_zero]
                  refine flow_pure (.int .i64 m) rfl rfl (fun b W hW => by cases hW; simp [go_sem]) ?_
                  refine flow_pure (.slice (some ⟨b, off, none⟩) n c) rfl rfl (fun b W hW => by cases hW; simp [go_sem]) ?_
                  refine flow_pure (.int .i64 k) rfl rfl (fun b W hW => by cases hW; simp [go_sem]) ?_
                  refine flow_pure (.pointer (some ⟨b, off + k * 3, none⟩)) rfl rfl (fun b W hW => by cases hW; simp [go_sem, hlt]) ?_
                  refine flow_pure (.pointer (some ⟨b, off + k * 3, none⟩)) rfl rfl (fun b W hW => by cases hW; simp [go_sem]) ?_
                  refine flow_pure (.int .i64 ea) rfl rfl (fun b W hW => by cases hW; simp [go_sem, k1]) ?_
                  refine flow_call (.bool true) 43 #[.int .i64 m, .int .i64 ea] rfl rfl (fun b W hW => by cases hW; simp [go_sem]) (fun b W hW => (record_any m ea W).mono (by rintro e W' ⟨rfl, rfl⟩; exact ⟨by rw [hA], hW⟩)) ?_
                  refine flow_pure (.bool false) rfl rfl (fun b W hW => by cases hW; simp [go_sem]) ?_
                  refine flow_pure (.bool false) rfl rfl (fun b W hW => by cases hW; simp [go_sem]) ?_
                  refine flow_want (.int .i64 m) (by kernel_rfl) rfl (fun b W hW => by cases hW; simp [go_sem]) ?_
                  refine flow_want (.slice (some ⟨b, off, none⟩) n c) (by kernel_rfl) rfl (fun b W hW => by cases hW; simp [go_sem]) ?_
                  refine flow_want (.int .i64 k) (by kernel_rfl) rfl (fun b W hW => by cases hW; simp [go_sem]) ?_
                  refine flow_want (.pointer (some ⟨b, off + k * 3, none⟩)) (by kernel_rfl) rfl (fun b W hW => by cases hW; simp [go_sem, hlt]) ?_
                  refine flow_want (.pointer (some ⟨b, off + k * 3 + 1, none⟩)) (by kernel_rfl) rfl (fun b W hW => by cases hW; simp [go_sem]) ?_
                  refine flow_want (.int .i64 eb) (by kernel_rfl) rfl (fun b W hW => by cases hW; simp [go_sem, k2]) ?_
                  refine flow_call_want (.bool true) 43 #[.int .i64 m, .int .i64 eb] (by kernel_rfl) rfl (fun b W hW => by cases hW; simp [go_sem]) (fun b W hW => (record_any m eb W).mono (by rintro e W' ⟨rfl, rfl⟩; exact ⟨by rw [hB], hW⟩)) ?_
                  refine flow_want (.bool false) (by kernel_rfl) rfl (fun b W hW => by cases hW; simp [go_sem]) ?_
                  refine flow_pure (.bool false) rfl rfl (fun b W hW => by cases hW; simp [go_sem]) ?_
                  refine flow_pure (.bool false) rfl rfl (fun b W hW => by cases hW; simp [go_sem]) ?_
                  refine flow_want (.slice (some ⟨b, off, none⟩) n c) (by kernel_rfl) rfl (fun b W hW => by cases hW; simp [go_sem]) ?_
                  refine flow_want (.int .i64 k) (by kernel_rfl) rfl (fun b W hW => by cases hW; simp [go_sem]) ?_
                  refine flow_want (.pointer (some ⟨b, off + k * 3, none⟩)) (by kernel_rfl) rfl (fun b W hW => by cases hW; simp [go_sem, hlt]) ?_
                  refine flow_want (.pointer (some ⟨b, off + k * 3, none⟩)) (by kernel_rfl) rfl (fun b W hW => by cases hW; simp [go_sem]) ?_
                  refine flow_want (.int .i64 ea) (by kernel_rfl) rfl (fun b W hW => by cases hW; simp [go_sem, k1]) ?_
                  refine flow_want (.slice (some ⟨b, off, none⟩) n c) (by kernel_rfl) rfl (fun b W hW => by cases hW; simp [go_sem]) ?_
                  refine flow_want (.int .i64 k) (by kernel_rfl) rfl (fun b W hW => by cases hW; simp [go_sem]) ?_
                  refine flow_want (.pointer (some ⟨b, off + k * 3, none⟩)) (by kernel_rfl) rfl (fun b W hW => by cases hW; simp [go_sem, hlt]) ?_
                  refine flow_want (.pointer (some ⟨b, off + k * 3 + 1, none⟩)) (by kernel_rfl) rfl (fun b W hW => by cases hW; simp [go_sem]) ?_
                  refine flow_want (.int .i64 eb) (by kernel_rfl) rfl (fun b W hW => by cases hW; simp [go_sem, k2]) ?_
                  refine flow_want (.bool false) (by kernel_rfl) rfl (fun b W hW => by cases hW; simp [go_sem, hq]) ?_
                  refine flow_pure (.bool false) rfl rfl (fun b W hW => by cases hW; simp [go_sem]) ?_
                  refine flow_pure (.bool false) rfl rfl (fun b W hW => by cases hW; simp [go_sem]) ?_
                  refine flow_want (.slice (some ⟨b, off, none⟩) n c) (by kernel_rfl) rfl (fun b W hW => by cases hW; simp [go_sem]) ?_
                  refine flow_want (.int .i64 k) (by kernel_rfl) rfl (fun b W hW => by cases hW; simp [go_sem]) ?_
                  refine flow_want (.pointer (some ⟨b, off + k * 3, none⟩)) (by kernel_rfl) rfl (fun b W hW => by cases hW; simp [go_sem, hlt]) ?_
                  refine flow_want (.pointer (some ⟨b, off + k * 3 + 2, none⟩)) (by kernel_rfl) rfl (fun b W hW => by cases hW; simp [go_sem]) ?_
                  refine flow_want (.int .i64 ew) (by kernel_rfl) rfl (fun b W hW => by cases hW; simp [go_sem, k3]) ?_
                  refine flow_want (.bool false) (by kernel_rfl) rfl (fun b W hW => by cases hW; simp [go_sem, hlo]) ?_
                  refine flow_pure (.bool false) rfl rfl (fun b W hW => by cases hW; simp [go_sem]) ?_
                  refine flow_pure (.bool false) rfl rfl (fun b W hW => by cases hW; simp [go_sem]) ?_
                  refine flow_want (.slice (some ⟨b, off, none⟩) n c) (by kernel_rfl) rfl (fun b W hW => by cases hW; simp [go_sem]) ?_
                  refine flow_want (.int .i64 k) (by kernel_rfl) rfl (fun b W hW => by cases hW; simp [go_sem]) ?_
                  refine flow_want (.pointer (some ⟨b, off + k * 3, none⟩)) (by kernel_rfl) rfl (fun b W hW => by cases hW; simp [go_sem, hlt]) ?_
                  refine flow_want (.pointer (some ⟨b, off + k * 3 + 2, none⟩)) (by kernel_rfl) rfl (fun b W hW => by cases hW; simp [go_sem]) ?_
                  refine flow_want (.int .i64 ew) (by kernel_rfl) rfl (fun b W hW => by cases hW; simp [go_sem, k3]) ?_
                  refine flow_want (.bool true) (by kernel_rfl) rfl (fun b W hW => by cases hW; simp [go_sem, hhi]) ?_
                  refine flow_pure (.bool true) rfl rfl (fun b W hW => by cases hW; simp [go_sem]) ?_
                  refine flow_nil fun W hW => ?_
                  cases hW
                  go_frame
                  go_wp2
                  go_ret
                  exact ⟨by rw [hfin.out]; rfl, Ext.trans hx (ext_drew _)⟩
                · have HI := hgood (by unfold badE; simp only [decide_eq_true_eq] at hA hB; rw [decide_eq_false_iff_not]; omega)
                  clear hbad hgood
                  refine wp_region_flow 47 [] (fun _ W => W = wr.drew) (by kernel_rfl) (by kernel_rfl) rfl ?_
                  simp only [List.take_succ_cons, List.take_zero, List.drop_succ_cons, List.drop_zero]
                  refine flow_pure (.int .i64 m) rfl rfl (fun b W hW => by cases hW; simp [go_sem]) ?_
                  refine flow_pure (.slice (some ⟨b, off, none⟩) n c) rfl rfl (fun b W hW => by cases hW; simp [go_sem]) ?_
                  refine flow_pure (.int .i64 k) rfl rfl (fun b W hW => by cases hW; simp [go_sem]) ?_
                  refine flow_pure (.pointer (some ⟨b, off + k * 3, none⟩)) rfl rfl (fun b W hW => by cases hW; simp [go_sem, hlt]) ?_
                  refine flow_pure (.pointer (some ⟨b, off + k * 3, none⟩)) rfl rfl (fun b W hW => by cases hW; simp [go_sem]) ?_
                  refine flow_pure (.int .i64 ea) rfl rfl (fun b W hW => by cases hW; simp [go_sem, k1]) ?_
                  refine flow_call (.bool true) 43 #[.int .i64 m, .int .i64 ea] rfl rfl (fun b W hW => by cases hW; simp [go_sem]) (fun b W hW => (record_any m ea W).mono (by rintro e W' ⟨rfl, rfl⟩; exact ⟨by rw [hA], hW⟩)) ?_
                  refine flow_pure (.bool false) rfl rfl (fun b W hW => by cases hW; simp [go_sem]) ?_
                  refine flow_pure (.bool false) rfl rfl (fun b W hW => by cases hW; simp [go_sem]) ?_
                  refine flow_want (.int .i64 m) (by kernel_rfl) rfl (fun b W hW => by cases hW; simp [go_sem]) ?_
                  refine flow_want (.slice (some ⟨b, off, none⟩) n c) (by kernel_rfl) rfl (fun b W hW => by cases hW; simp [go_sem]) ?_
                  refine flow_want (.int .i64 k) (by kernel_rfl) rfl (fun b W hW => by cases hW; simp [go_sem]) ?_
                  refine flow_want (.pointer (some ⟨b, off + k * 3, none⟩)) (by kernel_rfl) rfl (fun b W hW => by cases hW; simp [go_sem, hlt]) ?_
                  refine flow_want (.pointer (some ⟨b, off + k * 3 + 1, none⟩)) (by kernel_rfl) rfl (fun b W hW => by cases hW; simp [go_sem]) ?_
                  refine flow_want (.int .i64 eb) (by kernel_rfl) rfl (fun b W hW => by cases hW; simp [go_sem, k2]) ?_
                  refine flow_call_want (.bool true) 43 #[.int .i64 m, .int .i64 eb] (by kernel_rfl) rfl (fun b W hW => by cases hW; simp [go_sem]) (fun b W hW => (record_any m eb W).mono (by rintro e W' ⟨rfl, rfl⟩; exact ⟨by rw [hB], hW⟩)) ?_
                  refine flow_want (.bool false) (by kernel_rfl) rfl (fun b W hW => by cases hW; simp [go_sem]) ?_
                  refine flow_pure (.bool false) rfl rfl (fun b W hW => by cases hW; simp [go_sem]) ?_
                  refine flow_pure (.bool false) rfl rfl (fun b W hW => by cases hW; simp [go_sem]) ?_
                  refine flow_want (.slice (some ⟨b, off, none⟩) n c) (by kernel_rfl) rfl (fun b W hW => by cases hW; simp [go_sem]) ?_
                  refine flow_want (.int .i64 k) (by kernel_rfl) rfl (fun b W hW => by cases hW; simp [go_sem]) ?_
                  refine flow_want (.pointer (some ⟨b, off + k * 3, none⟩)) (by kernel_rfl) rfl (fun b W hW => by cases hW; simp [go_sem, hlt]) ?_
                  refine flow_want (.pointer (some ⟨b, off + k * 3, none⟩)) (by kernel_rfl) rfl (fun b W hW => by cases hW; simp [go_sem]) ?_
                  refine flow_want (.int .i64 ea) (by kernel_rfl) rfl (fun b W hW => by cases hW; simp [go_sem, k1]) ?_
                  refine flow_want (.slice (some ⟨b, off, none⟩) n c) (by kernel_rfl) rfl (fun b W hW => by cases hW; simp [go_sem]) ?_
                  refine flow_want (.int .i64 k) (by kernel_rfl) rfl (fun b W hW => by cases hW; simp [go_sem]) ?_
                  refine flow_want (.pointer (some ⟨b, off + k * 3, none⟩)) (by kernel_rfl) rfl (fun b W hW => by cases hW; simp [go_sem, hlt]) ?_
                  refine flow_want (.pointer (some ⟨b, off + k * 3 + 1, none⟩)) (by kernel_rfl) rfl (fun b W hW => by cases hW; simp [go_sem]) ?_
                  refine flow_want (.int .i64 eb) (by kernel_rfl) rfl (fun b W hW => by cases hW; simp [go_sem, k2]) ?_
                  refine flow_want (.bool false) (by kernel_rfl) rfl (fun b W hW => by cases hW; simp [go_sem, hq]) ?_
                  refine flow_pure (.bool false) rfl rfl (fun b W hW => by cases hW; simp [go_sem]) ?_
                  refine flow_pure (.bool false) rfl rfl (fun b W hW => by cases hW; simp [go_sem]) ?_
                  refine flow_want (.slice (some ⟨b, off, none⟩) n c) (by kernel_rfl) rfl (fun b W hW => by cases hW; simp [go_sem]) ?_
                  refine flow_want (.int .i64 k) (by kernel_rfl) rfl (fun b W hW => by cases hW; simp [go_sem]) ?_
                  refine flow_want (.pointer (some ⟨b, off + k * 3, none⟩)) (by kernel_rfl) rfl (fun b W hW => by cases hW; simp [go_sem, hlt]) ?_
                  refine flow_want (.pointer (some ⟨b, off + k * 3 + 2, none⟩)) (by kernel_rfl) rfl (fun b W hW => by cases hW; simp [go_sem]) ?_
                  refine flow_want (.int .i64 ew) (by kernel_rfl) rfl (fun b W hW => by cases hW; simp [go_sem, k3]) ?_
                  refine flow_want (.bool false) (by kernel_rfl) rfl (fun b W hW => by cases hW; simp [go_sem, hlo]) ?_
                  refine flow_pure (.bool false) rfl rfl (fun b W hW => by cases hW; simp [go_sem]) ?_
                  refine flow_pure (.bool false) rfl rfl (fun b W hW => by cases hW; simp [go_sem]) ?_
                  refine flow_want (.slice (some ⟨b, off, none⟩) n c) (by kernel_rfl) rfl (fun b W hW => by cases hW; simp [go_sem]) ?_
                  refine flow_want (.int .i64 k) (by kernel_rfl) rfl (fun b W hW => by cases hW; simp [go_sem]) ?_
                  refine flow_want (.pointer (some ⟨b, off + k * 3, none⟩)) (by kernel_rfl) rfl (fun b W hW => by cases hW; simp [go_sem, hlt]) ?_
                  refine flow_want (.pointer (some ⟨b, off + k * 3 + 2, none⟩)) (by kernel_rfl) rfl (fun b W hW => by cases hW; simp [go_sem]) ?_
                  refine flow_want (.int .i64 ew) (by kernel_rfl) rfl (fun b W hW => by cases hW; simp [go_sem, k3]) ?_
                  refine flow_want (.bool false) (by kernel_rfl) rfl (fun b W hW => by cases hW; simp [go_sem, hhi]) ?_
                  refine flow_pure (.bool false) rfl rfl (fun b W hW => by cases hW; simp [go_sem]) ?_
                  refine flow_nil fun W hW => ?_
                  cases hW
                  go_frame
                  go_wp2
                  go_roundw
                  case rel => exact ⟨k + 1, by omega, by go_num, HI, Ext.trans hx (ext_drew _)⟩
                  case measure => (simp [intOf]; omega)
      · obtain rfl : k = n := by omega
        have hfin := Lib.hid (linkedB_end hl h2 hI)
        clear hI
        go_wp2
        go_ret
        exact ⟨by rw [hfin.out]; rfl, hx⟩
  · have hb : linkedB m es = false := by
      rw [← Bool.not_eq_true, linkedB_all]
      rintro ⟨h', _⟩
      rw [hl.out] at h'
      exact h2 h'
    rw [hb]
    go_enter Try.func37, Try.ntmps37
    go_wp2
    go_ret
    exact ⟨rfl, ⟨rfl, rfl, rfl, Nat.le_refl _, fun _ _ => rfl⟩⟩

/-! The reference's marks: plain part. -/
structure RInv (same : List Int) (m : Nat) (R : Int → Int → Prop) (O : List Int) : Prop where
  len : O.length = m
  cls : ∀ i, i < m → Cls same m (nth O i)
  conn : ∀ i, i < m → Conn R (nth O i) (nth same i)
  self : ∀ i, i < m → nth O (nth O i).toNat = nth O i
  keep : ∀ i, i < m → nth O (nth same i).toNat = nth O i
  le : ∀ i, i < m → nth O i ≤ nth same i
theorem RInv.start {same : List Int} {m : Nat} {R : Int → Int → Prop} (hv : ValidP same) (hl : same.length = m) : RInv same m R same := by
  have hc : ∀ i, i < m → Cls same m (nth same i) := fun i hi => by
    have := same_cls hv hl (i := (i : Int)) (by omega) (by omega)
    simpa using this
  exact ⟨hl, hc, fun i hi => .refl, fun i hi => (hc i hi).2.2, fun i hi => (hc i hi).2.2, fun i hi => Int.le_refl _⟩
def mergeTo (O : List Int) (lo hi : Int) : Nat → List Int
  | 0 => O
  | k + 1 => if nth O k = hi then (mergeTo O lo hi k).set k lo else mergeTo O lo hi k
theorem mergeTo_len (O : List Int) (lo hi : Int) : ∀ k, (mergeTo O lo hi k).length = O.length
  | 0 => rfl
  | k + 1 => by rw [mergeTo]; split <;> simp [mergeTo_len]
theorem mergeTo_nth {O : List Int} {lo hi : Int} {i : Nat} : ∀ k, k ≤ O.length → nth (mergeTo O lo hi k) i = if i < k ∧ nth O i = hi then lo else nth O i
  | 0, _ => by simp [mergeTo]
  | k + 1, hk => by
    have ih := mergeTo_nth (O := O) (lo := lo) (hi := hi) (i := i) k (by omega)
    rw [mergeTo]
    by_cases hh : nth O k = hi
    · rw [if_pos hh, nth_set _ _ _ _ (by rw [mergeTo_len]; omega), ih]
      by_cases e : i = k
      · subst e; rw [if_pos rfl, if_pos ⟨by omega, hh⟩]
      · rw [if_neg e]
        by_cases h2 : i < k ∧ nth O i = hi
        · rw [if_pos h2, if_pos ⟨by omega, h2.2⟩]
        · rw [if_neg h2, if_neg (fun h => h2 ⟨by omega, h.2⟩)]
    · rw [if_neg hh, ih]
      by_cases h2 : i < k ∧ nth O i = hi
      · rw [if_pos h2, if_pos ⟨by omega, h2.2⟩]
      · rw [if_neg h2, if_neg (fun h => h2 ⟨by
          rcases Nat.lt_or_eq_of_le (Nat.le_of_lt_succ h.1) with h' | rfl
          · exact h'
          · exact absurd h.2 hh, h.2⟩)]
def total (O : List Int) : Nat := (O.map Int.toNat).sum
theorem total_lt {O O' : List Int} : ∀ (hl : O'.length = O.length) (hle : ∀ i, i < O.length → (nth O' i).toNat ≤ (nth O i).toNat) {j : Nat} (hj : j < O.length) (hlt : (nth O' j).toNat < (nth O j).toNat), total O' < total O := by
  induction O generalizing O' with
  | nil => intro _ _ j hj; simp at hj
  | cons x O ih =>
    intro hl hle j hj hlt
    cases O' with
    | nil => simp at hl
    | cons y O' =>
      have hl' : O'.length = O.length := by simpa using hl
      have h0 : y.toNat ≤ x.toNat := hle 0 (by simp)
      have hle' : ∀ i, i < O.length → (nth O' i).toNat ≤ (nth O i).toNat := fun i hi => hle (i + 1) (by simpa using hi)
      have hmono : ∀ (A B : List Int), A.length = B.length → (∀ i, i < B.length → (nth A i).toNat ≤ (nth B i).toNat) → total A ≤ total B := by
        intro A
        induction A with
        | nil => intro B h _; cases B with | nil => exact Nat.le_refl _ | cons => simp at h
        | cons a A ihA =>
          intro B h h2
          cases B with
          | nil => simp at h
          | cons b B =>
            have := ihA B (by simpa using h) (fun i hi => h2 (i + 1) (by simpa using hi))
            have h3 : a.toNat ≤ b.toNat := h2 0 (by simp)
            simp only [total, List.map_cons, List.sum_cons] at this ⊢
            omega
      cases j with
      | zero =>
        have hlt : y.toNat < x.toNat := hlt
        have := hmono O' O hl' hle'
        simp only [total, List.map_cons, List.sum_cons] at this ⊢
        omega
      | succ j =>
        have := ih hl' hle' (j := j) (by simpa using hj) hlt
        simp only [total, List.map_cons, List.sum_cons] at this ⊢
        omega
theorem RInv.merge {same O : List Int} {m : Nat} {R : Int → Int → Prop} (I : RInv same m R O) (hcs : ∀ i, i < m → Cls same m (nth same i)) (hs : ∀ a b, R a b → R b a) {a b : Int} (ha : Cls same m a) (hb : Cls same m b) (hab : R a b) (hne : nth O a.toNat ≠ nth O b.toNat) :
    RInv same m R (mergeTo O (min (nth O a.toNat) (nth O b.toNat)) (max (nth O a.toNat) (nth O b.toNat)) m) ∧ total (mergeTo O (min (nth O a.toNat) (nth O b.toNat)) (max (nth O a.toNat) (nth O b.toNat)) m) < total O := by
  obtain ⟨a0, a1, a2⟩ := ha
  obtain ⟨b0, b1, b2⟩ := hb
  have hai : a.toNat < m := by omega
  have hbi : b.toNat < m := by omega
  have ca := I.conn _ hai
  have cb := I.conn _ hbi
  rw [a2] at ca
  rw [b2] at cb
  have kab : Conn R (nth O a.toNat) (nth O b.toNat) := (ca.step hab).trans (cb.symm hs)
  have la := I.cls _ hai
  have lb := I.cls _ hbi
  have sa := I.self _ hai
  have sb := I.self _ hbi
  obtain ⟨lo, hlo⟩ : ∃ lo, lo = min (nth O a.toNat) (nth O b.toNat) := ⟨_, rfl⟩
  obtain ⟨hi, hhi⟩ : ∃ hi, hi = max (nth O a.toNat) (nth O b.toNat) := ⟨_, rfl⟩
  rw [← hlo, ← hhi]
  have hlt : lo < hi := by omega
  have hcl : Cls same m lo ∧ Conn R lo hi ∧ nth O lo.toNat = lo := by
    rcases Int.le_total (nth O a.toNat) (nth O b.toNat) with h | h
    · rw [hlo, hhi, Int.min_eq_left h, Int.max_eq_right h]; exact ⟨la, kab, sa⟩
    · rw [hlo, hhi, Int.min_eq_right h, Int.max_eq_left h]; exact ⟨lb, kab.symm hs, sb⟩
  have hn : ∀ i, i < m → nth (mergeTo O lo hi m) i = if nth O i = hi then lo else nth O i := fun i hi' => by
    rw [mergeTo_nth m (by rw [I.len]; exact Nat.le_refl _)]
    by_cases h : nth O i = hi
    · rw [if_pos ⟨hi', h⟩, if_pos h]
    · rw [if_neg (fun h' => h h'.2), if_neg h]
  have hlom : lo.toNat < m := by have := hcl.1.1; have := hcl.1.2.1; omega
  refine ⟨⟨by rw [mergeTo_len, I.len], fun i hi' => ?_, fun i hi' => ?_, fun i hi' => ?_, fun i hi' => ?_, fun i hi' => ?_⟩, ?_⟩
  · rw [hn i hi']; split; exact hcl.1; exact I.cls i hi'
  · rw [hn i hi']
    split
    · rename_i h
      have := I.conn i hi'
      rw [h] at this
      exact hcl.2.1.trans this
    · exact I.conn i hi'
  · rw [hn i hi']
    split
    · rw [hn _ hlom, hcl.2.2, if_neg (by omega)]
    · rename_i h
      have hc := I.cls i hi'
      rw [hn _ (by have := hc.1; have := hc.2.1; omega), I.self i hi', if_neg h]
  · have hc : (nth same i).toNat < m := by
      have := (hcs i hi').1
      have := (hcs i hi').2.1
      omega
    rw [hn _ hc, hn i hi', I.keep i hi']
  · rw [hn i hi']
    have := I.le i hi'
    split <;> omega
  · have key : ∃ j, j < m ∧ nth O j = hi := by
      rcases Int.le_total (nth O a.toNat) (nth O b.toNat) with h | h
      · exact ⟨b.toNat, hbi, by rw [hhi, Int.max_eq_right h]⟩
      · exact ⟨a.toNat, hai, by rw [hhi, Int.max_eq_left h]⟩
    obtain ⟨j, hj, hje⟩ := key
    refine total_lt (by rw [mergeTo_len]) (fun i hi' => ?_) (j := j) (by rw [I.len]; exact hj) ?_
    · rw [hn i (by rw [← I.len]; exact hi')]
      split <;> omega
    · rw [hn j hj, if_pos hje, hje]
      have := hcl.1.1
      omega
theorem bet_wTo {es : List E3} {same : List Int} {a b : Int} (hab : a ≠ b) : ∀ k, betTo es same a b k = (wTo es same k (ordP a b)).getD 0
  | 0 => rfl
  | k + 1 => by
    rw [betTo, wTo, bet_wTo hab k]
    have hiff : betC same a b (eth es k) ↔ (nth same (eth es k).a.toNat ≠ nth same (eth es k).b.toNat ∧ ordP a b = (min (nth same (eth es k).a.toNat) (nth same (eth es k).b.toNat), max (nth same (eth es k).a.toNat) (nth same (eth es k).b.toNat))) := by
      unfold betC ordP
      constructor
      · intro h
        exact ⟨by omega, by apply Prod.ext <;> simp only <;> omega⟩
      · rintro ⟨h1, h2⟩
        have h3 := congrArg Prod.fst h2
        have h4 := congrArg Prod.snd h2
        simp only at h3 h4
        omega
    by_cases hc : betC same a b (eth es k)
    · rw [if_pos hc, if_pos (hiff.1 hc)]; rfl
    · rw [if_neg hc, if_neg (fun h => hc (hiff.2 h))]; omega
/-- nothing is left to unite at edge j -/
def closedAt (es : List E3) (same O : List Int) (n j : Nat) : Prop := nth O (nth same (eth es j).a.toNat).toNat = nth O (nth same (eth es j).b.toNat).toNat ∨ betTo es same (nth same (eth es j).a.toNat) (nth same (eth es j).b.toNat) n ≤ 0
theorem RInv.done {es : List E3} {same O : List Int} {m : Nat} (hv : ValidP same) (hl : same.length = m) (hg : GoodE m es es.length) (I : RInv same m (Adj (wTo es same es.length)) O) (hc : ∀ j, j < es.length → closedAt es same O es.length j) : MarkOk same m (Adj (wTo es same es.length)) O := by
  have hR : ∀ x y, Adj (wTo es same es.length) x y → nth O x.toNat = nth O y.toNat := fun x y hxy => by
    have key : ∀ u v z, 0 < z → wTo es same es.length (u, v) = some z → nth O u.toNat = nth O v.toNat := fun u v z hz hw => by
      have hw2 := hw
      rw [wTo_all] at hw2
      split at hw2
      · rename_i hany
        obtain ⟨e, he, hk⟩ := List.any_eq_true.1 hany
        obtain ⟨j, hj, e1⟩ := List.getElem_of_mem he
        have ej : eth es j = e := by simp [eth, List.getD_eq_getElem?_getD, List.getElem?_eq_getElem hj, e1]
        unfold keyB at hk
        rw [decide_eq_true_iff] at hk
        obtain ⟨hne, hp⟩ := hk
        rcases hc j hj with h | h
        · rw [ej] at h
          have h1 := congrArg Prod.fst hp
          have h2 := congrArg Prod.snd hp
          simp only at h1 h2
          rcases Int.le_total (nth same e.a.toNat) (nth same e.b.toNat) with h' | h'
          · rw [Int.min_eq_left h'] at h1; rw [Int.max_eq_right h'] at h2; rw [h1, h2]; exact h
          · rw [Int.min_eq_right h'] at h1; rw [Int.max_eq_left h'] at h2; rw [h1, h2]; exact h.symm
        · rw [ej, bet_wTo hne] at h
          have : ordP (nth same e.a.toNat) (nth same e.b.toNat) = (u, v) := hp.symm
          rw [this, hw] at h
          simp at h
          omega
      · cases hw2
    obtain ⟨z, hz, h | h⟩ := hxy
    · exact key x y z hz h
    · exact (key y x z hz h).symm
  have hConn : ∀ x y, Conn (Adj (wTo es same es.length)) x y → nth O x.toNat = nth O y.toNat := fun x y h => by
    induction h with
    | refl => rfl
    | step _ h ih => exact ih.trans (hR _ _ h)
  refine ⟨I.len, fun i hi => ⟨I.cls i hi, I.conn i hi, fun y hy => ?_⟩⟩
  have h1 := hConn _ _ hy
  rw [I.self i hi] at h1
  have hyc : Cls same m y := Conn.cls (fun a b hab => by
    obtain ⟨z, _, h | h⟩ := hab
    · exact (wTo_cls hv hl hg _ _ es.length (Nat.le_refl _) h).2.1
    · exact (wTo_cls hv hl hg _ _ es.length (Nat.le_refl _) h).1) (I.cls i hi) hy
  have h2 := I.le y.toNat (by have := hyc.1; have := hyc.2.1; omega)
  rw [hyc.2.2] at h2
  omega

theorem own_empty3 (W : World) : (W.alloc (.cells #[] 3)).ownsRow W.heap.size 3 1 (.slice (some ⟨W.heap.size, 0, none⟩) 0 0) ([] : List Int).length (ints []) :=
  ⟨rfl, .inr ⟨_, 0, #[], rfl, Nat.le_refl _, heap_alloc_new _ _, Nat.le_refl _, by simp [maxLen], rfl, rfl⟩⟩
theorem bet_adj {es : List E3} {same : List Int} {a b : Int} {n : Nat} (hne : a ≠ b) (h : ¬ betTo es same a b n ≤ 0) : Adj (wTo es same n) a b := by
  rw [bet_wTo hne] at h
  cases hw : wTo es same n (ordP a b) with
  | none => rw [hw] at h; simp at h
  | some z =>
    rw [hw, Option.getD_some] at h
    refine ⟨z, by omega, ?_⟩
    unfold ordP at hw
    rcases Int.le_total a b with h' | h'
    · rw [Int.min_eq_left h', Int.max_eq_right h'] at hw; exact .inl hw
    · rw [Int.min_eq_right h', Int.max_eq_left h'] at hw; exact .inr hw
set_option maxRecDepth 100000 in
set_option maxHeartbeats 8000000 in
theorem marks_any (A : Option Addr) (n c : Nat) (es : List E3) (A1 : Option Addr) (m c1 : Nat) (same : List Int) (w : World) (h : REdges w A n es) (h1 : RInts w A1 m same) (hv : ValidP same) (hg : GoodE m es n) :
    Calls Try.prog 39 #[.slice A n c, .slice A1 m c1] w fun e w' => ∃ v ms, e = .returned v ∧ w'.ownsRow w.heap.size 3 1 v m (ints ms) ∧ MarkOk same m (Adj (wTo es same n)) ms ∧ Ext w w' := by
  have hbig := h.big
  have hn := hg.2
  have hel := h.len
  have hsl := h1.len
  have hm : m ≤ 2000 := by have := hv.2; omega
  have hcs : ∀ i, i < m → Cls same m (nth same i) := fun i hi => by
    have := same_cls hv hsl (i := (i : Int)) (by omega) (by omega)
    simpa using this
  obtain ⟨v1, W1, happ, hown1, hg1, -, -⟩ := append_ints (c := c1) (own_empty3 w) (h1.ext (ext_alloc w (.cells #[] 3))) (by simp) (by simp) (by omega)
  rw [List.nil_append, hsl] at hown1
  have hx1 : Ext w W1 := (ext_alloc w (.cells #[] 3)).grown hg1 (by simp) (fun k e => by
    have : w.heap.size = k := by simpa [Value.ownBlock] using e
    omega)
  obtain ⟨A5, c5, rfl, hA5⟩ := own_slice hown1
  have I0 : RInv same m (Adj (wTo es same n)) same := RInv.start hv hsl
  have HEL := Lib.hid hel
  have HSL := Lib.hid hsl
  clear hel hsl hg1
  go_enter Try.func39, Try.ntmps39
  go_wp2_with (at_builtin; refine wpList_app happ rfl rfl rfl rfl ?_; clear happ)
  go_loopg [6] (2 * total same + 1) (fun gg t6 wr => ∃ O again, t6 = .bool again ∧ RInv same m (Adj (wTo es same n)) O ∧ 2 * total O + (if again = true then 1 else 0) ≤ gg ∧ (again = false → ∀ j, j < n → closedAt es same O n j) ∧ wr.ownsRow w.heap.size 3 1 (.slice A5 m c5) m (ints O) ∧ W1.grownBy wr (Value.ownBlock (.slice A5 m c5)))
  case atStart => exact ⟨same, true, rfl, I0, by simp, fun h => (by cases h), hown1, World.grownBy.refl _ _⟩
  case round =>
    obtain ⟨O, again, rfl, I, hgg, hcl, hrow, hgr⟩ := hrel
    have hxO : Ext w wr := hx1.grown hgr hx1.size (fun k e => (own_block hown1 e).1)
    cases again with
    | false =>
      have hfin : MarkOk same m (Adj (wTo es same n)) O := by
        have hel := HEL.out
        subst hel
        exact RInv.done hv HSL.out hg I (hcl rfl)
      go_wp2
      refine bodyPost_ret (v := .slice A5 m c5) (by simp [results, Try.results39, go_sem]) rfl ⟨_, rfl, O, hrow, hfin, hxO⟩
    | true =>
      simp only [if_true] at hgg
      have HGG := Lib.hid hgg
      clear hcl hgg
      go_wp2
      go_loopg [6, 7] n (fun g2 t6 t7 wx => ∃ (k : Nat) (O' : List Int) (ag : Bool), n - k ≤ g2 ∧ k ≤ n ∧ t7 = .int .i64 k ∧ t6 = .bool ag ∧ RInv same m (Adj (wTo es same n)) O' ∧ (ag = true → total O' < total O) ∧ (ag = false → O' = O ∧ ∀ j, j < k → closedAt es same O n j) ∧ wx.ownsRow w.heap.size 3 1 (.slice A5 m c5) m (ints O') ∧ W1.grownBy wx (Value.ownBlock (.slice A5 m c5)))
      case atStart => exact ⟨0, O, false, Nat.le_refl _, Nat.zero_le _, rfl, rfl, I, fun h => (by cases h), fun _ => ⟨rfl, fun j hj => absurd hj (Nat.not_lt_zero _)⟩, hrow, hgr⟩
      case round =>
        obtain ⟨k, O', ag, hg2, hk, rfl, rfl, I', ha1, ha2, hrow', hgr'⟩ := hrel
        by_cases hlt : k < n
        · have hxw : Ext w wr := hx1.grown hgr' hx1.size (fun k e => (own_block hown1 e).1)
          obtain ⟨⟨a0, a1, b0, b1'⟩, w1, w2⟩ := hg.1 k hlt
          have hm0 : 0 < m := by omega
          obtain ⟨b, off, rfl, hcell⟩ := h.cell (by omega)
          obtain ⟨b1, o1, rfl, hcell1⟩ := h1.cell hm0
          obtain ⟨g, rfl, hga, hgb⟩ := hA5 hm0
          have k1 := cell_ext hxw (hcell k hlt).1
          have k2 := cell_ext hxw (hcell k hlt).2.1
          have hca := hcs (eth es k).a.toNat (by omega)
          have hcb := hcs (eth es k).b.toNat (by omega)
          have d1 := cell_ext hxw (hcell1 (eth es k).a.toNat (by omega))
          have d2 := cell_ext hxw (hcell1 (eth es k).b.toNat (by omega))
          have hclo : ∀ O, closedAt es same O n k ↔ (nth O (nth same (eth es k).a.toNat).toNat = nth O (nth same (eth es k).b.toNat).toNat ∨ betTo es same (nth same (eth es k).a.toNat) (nth same (eth es k).b.toNat) n ≤ 0) := fun O => Iff.rfl
          obtain ⟨ea, eb, ew, hE⟩ : ∃ ea eb ew, Hid (eth es k = ⟨ea, eb, ew⟩) := ⟨_, _, _, rfl⟩
          rw [hE.out] at k1 k2 a0 a1 b0 b1' hca hcb d1 d2
          simp only [hE.out] at hclo
          dsimp only at k1 k2 a0 a1 b0 b1' hca hcb d1 d2
          have han : ((ea.toNat : Nat) : Int) = ea := Int.toNat_of_nonneg a0
          have hbn : ((eb.toNat : Nat) : Int) = eb := Int.toNat_of_nonneg b0
          obtain ⟨sa, hsa⟩ : ∃ sa, Hid (nth same ea.toNat = sa) := ⟨_, rfl⟩
          obtain ⟨sb, hsb⟩ : ∃ sb, Hid (nth same eb.toNat = sb) := ⟨_, rfl⟩
          rw [hsa.out] at d1 hca
          rw [hsb.out] at d2 hcb
          simp only [hsa.out, hsb.out] at hclo
          obtain ⟨sa0, sa1, sa2⟩ := hca
          obtain ⟨sb0, sb1, sb2⟩ := hcb
          have san : ((sa.toNat : Nat) : Int) = sa := Int.toNat_of_nonneg sa0
          have sbn : ((sb.toNat : Nat) : Int) = sb := Int.toNat_of_nonneg sb0
          have qa : wr.drew.cell? _ = _ := (own_at hrow' sa.toNat (by omega)).1
          have qb : wr.drew.cell? _ = _ := (own_at hrow' sb.toNat (by omega)).1
          have HCA := Lib.hid (show Cls same m sa from ⟨sa0, sa1, sa2⟩)
          have HCB := Lib.hid (show Cls same m sb from ⟨sb0, sb1, sb2⟩)
          clear hcell hcell1 sa2 sb2
          go_wp2
          by_cases hq : nth O' sa.toNat = nth O' sb.toNat
          · have hskip : ag = false → O' = O ∧ ∀ j, j < k + 1 → closedAt es same O n j := fun h => by
              obtain ⟨e, hc⟩ := ha2 h
              refine ⟨e, fun j hj => ?_⟩
              rcases Nat.lt_or_eq_of_le (Nat.le_of_lt_succ hj) with h' | rfl
              · exact hc j h'
              · rw [hclo, ← e]; exact .inl hq
            have HS := Lib.hid hskip
            clear hskip ha2 hclo
            refine wp_region_flow 17 [] (fun _ W => W = wr.drew) (by kernel_rfl) (by kernel_rfl) rfl ?_
            simp only [List.take_succ_cons, List.take_zero, List.drop_succ_cons, List.drop_zero]
            refine flow_pure (.slice (some ⟨g, 0, none⟩) m c5) rfl rfl (fun bq W hW => by cases hW; simp [go_sem]) ?_
            refine flow_pure (.int .i64 sa) rfl rfl (fun bq W hW => by cases hW; simp [go_sem]) ?_
            refine flow_pure (.pointer (some ⟨g, sa.toNat, none⟩)) rfl rfl (fun bq W hW => by cases hW; simp [go_sem, sa0, sa1, sb0, sb1]) ?_
            refine flow_pure (.int .i64 (nth O' sa.toNat)) rfl rfl (fun bq W hW => by cases hW; simp [go_sem, qa]) ?_
            refine flow_pure (.slice (some ⟨g, 0, none⟩) m c5) rfl rfl (fun bq W hW => by cases hW; simp [go_sem]) ?_
            refine flow_pure (.int .i64 sb) rfl rfl (fun bq W hW => by cases hW; simp [go_sem]) ?_
            refine flow_pure (.pointer (some ⟨g, sb.toNat, none⟩)) rfl rfl (fun bq W hW => by cases hW; simp [go_sem, sa0, sa1, sb0, sb1]) ?_
            refine flow_pure (.int .i64 (nth O' sb.toNat)) rfl rfl (fun bq W hW => by cases hW; simp [go_sem, qb]) ?_
            refine flow_pure (.bool true) rfl rfl (fun bq W hW => by cases hW; simp [go_sem, hq]) ?_
            refine flow_pure (.bool true) rfl rfl (fun bq W hW => by cases hW; simp [go_sem]) ?_
            refine flow_skip (by kernel_rfl) rfl ?_
            refine flow_skip (by kernel_rfl) rfl ?_
            refine flow_skip (by kernel_rfl) rfl ?_
            refine flow_skip (by kernel_rfl) rfl ?_
            refine flow_skip (by kernel_rfl) rfl ?_
            refine flow_skip (by kernel_rfl) rfl ?_
            refine flow_pure (.bool true) rfl rfl (fun bq W hW => by cases hW; simp [go_sem]) ?_
            refine flow_nil fun W hW => ?_
            cases hW
            go_frame
            go_wp2
            go_roundg (n - (k + 1))
            case measure => exact Nat.lt_of_lt_of_le (Nat.sub_lt_sub_left hlt (Nat.lt_succ_self k)) hg2
            case rel => exact ⟨k + 1, O', ag, Nat.le_refl _, by omega, by go_num, rfl, I', ha1, HS.out, own_ext hrow' (ext_drew _), World.grownBy.trans hgr' ⟨rfl, rfl, rfl, Nat.le_refl _, fun _ _ _ => rfl⟩⟩
          · by_cases hle : betTo es same sa sb n ≤ 0
            · have hskip : ag = false → O' = O ∧ ∀ j, j < k + 1 → closedAt es same O n j := fun h => by
                obtain ⟨e, hc⟩ := ha2 h
                refine ⟨e, fun j hj => ?_⟩
                rcases Nat.lt_or_eq_of_le (Nat.le_of_lt_succ hj) with h' | rfl
                · exact hc j h'
                · rw [hclo]; exact .inr hle
              have HS := Lib.hid hskip
              clear hskip ha2 hclo
              refine wp_region_flow 17 [] (fun _ W => W = wr.drew) (by kernel_rfl) (by kernel_rfl) rfl ?_
              simp only [List.take_succ_cons, List.take_zero, List.drop_succ_cons, List.drop_zero]
              refine flow_pure (.slice (some ⟨g, 0, none⟩) m c5) rfl rfl (fun bq W hW => by cases hW; simp [go_sem]) ?_
              refine flow_pure (.int .i64 sa) rfl rfl (fun bq W hW => by cases hW; simp [go_sem]) ?_
              refine flow_pure (.pointer (some ⟨g, sa.toNat, none⟩)) rfl rfl (fun bq W hW => by cases hW; simp [go_sem, sa0, sa1, sb0, sb1]) ?_
              refine flow_pure (.int .i64 (nth O' sa.toNat)) rfl rfl (fun bq W hW => by cases hW; simp [go_sem, qa]) ?_
              refine flow_pure (.slice (some ⟨g, 0, none⟩) m c5) rfl rfl (fun bq W hW => by cases hW; simp [go_sem]) ?_
              refine flow_pure (.int .i64 sb) rfl rfl (fun bq W hW => by cases hW; simp [go_sem]) ?_
              refine flow_pure (.pointer (some ⟨g, sb.toNat, none⟩)) rfl rfl (fun bq W hW => by cases hW; simp [go_sem, sa0, sa1, sb0, sb1]) ?_
              refine flow_pure (.int .i64 (nth O' sb.toNat)) rfl rfl (fun bq W hW => by cases hW; simp [go_sem, qb]) ?_
              refine flow_pure (.bool false) rfl rfl (fun bq W hW => by cases hW; simp [go_sem, hq]) ?_
              refine flow_pure (.bool false) rfl rfl (fun bq W hW => by cases hW; simp [go_sem]) ?_
              refine flow_want (.slice (some ⟨b, off, none⟩) n c) (by kernel_rfl) rfl (fun bq W hW => by cases hW; simp [go_sem]) ?_
              refine flow_want (.slice (some ⟨b1, o1, none⟩) m c1) (by kernel_rfl) rfl (fun bq W hW => by cases hW; simp [go_sem]) ?_
              refine flow_want (.int .i64 sa) (by kernel_rfl) rfl (fun bq W hW => by cases hW; simp [go_sem]) ?_
              refine flow_want (.int .i64 sb) (by kernel_rfl) rfl (fun bq W hW => by cases hW; simp [go_sem]) ?_
              refine flow_call_want (.int .i64 (betTo es same sa sb n)) 59 #[.slice (some ⟨b, off, none⟩) n c, .slice (some ⟨b1, o1, none⟩) m c1, .int .i64 sa, .int .i64 sb] (by kernel_rfl) rfl (fun bq W hW => by cases hW; simp [go_sem]) (fun bq W hW => by cases hW; exact (between_any (some ⟨b, off, none⟩) n c es (some ⟨b1, o1, none⟩) m c1 same sa sb wr.drew (h.ext (Ext.trans hxw (ext_drew _))) (h1.ext (Ext.trans hxw (ext_drew _))) hg).mono (by rintro e W' ⟨rfl, rfl⟩; exact ⟨rfl, rfl⟩)) ?_
              refine flow_want (.bool true) (by kernel_rfl) rfl (fun bq W hW => by cases hW; simp [go_sem, hle]) ?_
              refine flow_pure (.bool true) rfl rfl (fun bq W hW => by cases hW; simp [go_sem]) ?_
              refine flow_nil fun W hW => ?_
              cases hW
              go_frame
              go_wp2
              go_roundg (n - (k + 1))
              case measure => exact Nat.lt_of_lt_of_le (Nat.sub_lt_sub_left hlt (Nat.lt_succ_self k)) hg2
              case rel => exact ⟨k + 1, O', ag, Nat.le_refl _, by omega, by go_num, rfl, I', ha1, HS.out, own_ext hrow' (ext_drew _), World.grownBy.trans hgr' ⟨rfl, rfl, rfl, Nat.le_refl _, fun _ _ _ => rfl⟩⟩
            · clear hclo
              refine wp_region_flow 17 [] (fun _ W => W = wr.drew) (by kernel_rfl) (by kernel_rfl) rfl ?_
              simp only [List.take_succ_cons, List.take_zero, List.drop_succ_cons, List.drop_zero]
              refine flow_pure (.slice (some ⟨g, 0, none⟩) m c5) rfl rfl (fun bq W hW => by cases hW; simp [go_sem]) ?_
              refine flow_pure (.int .i64 sa) rfl rfl (fun bq W hW => by cases hW; simp [go_sem]) ?_
              refine flow_pure (.pointer (some ⟨g, sa.toNat, none⟩)) rfl rfl (fun bq W hW => by cases hW; simp [go_sem, sa0, sa1, sb0, sb1]) ?_
              refine flow_pure (.int .i64 (nth O' sa.toNat)) rfl rfl (fun bq W hW => by cases hW; simp [go_sem, qa]) ?_
              refine flow_pure (.slice (some ⟨g, 0, none⟩) m c5) rfl rfl (fun bq W hW => by cases hW; simp [go_sem]) ?_
              refine flow_pure (.int .i64 sb) rfl rfl (fun bq W hW => by cases hW; simp [go_sem]) ?_
              refine flow_pure (.pointer (some ⟨g, sb.toNat, none⟩)) rfl rfl (fun bq W hW => by cases hW; simp [go_sem, sa0, sa1, sb0, sb1]) ?_
              refine flow_pure (.int .i64 (nth O' sb.toNat)) rfl rfl (fun bq W hW => by cases hW; simp [go_sem, qb]) ?_
              refine flow_pure (.bool false) rfl rfl (fun bq W hW => by cases hW; simp [go_sem, hq]) ?_
              refine flow_pure (.bool false) rfl rfl (fun bq W hW => by cases hW; simp [go_sem]) ?_
              refine flow_want (.slice (some ⟨b, off, none⟩) n c) (by kernel_rfl) rfl (fun bq W hW => by cases hW; simp [go_sem]) ?_
              refine flow_want (.slice (some ⟨b1, o1, none⟩) m c1) (by kernel_rfl) rfl (fun bq W hW => by cases hW; simp [go_sem]) ?_
              refine flow_want (.int .i64 sa) (by kernel_rfl) rfl (fun bq W hW => by cases hW; simp [go_sem]) ?_
              refine flow_want (.int .i64 sb) (by kernel_rfl) rfl (fun bq W hW => by cases hW; simp [go_sem]) ?_
              refine flow_call_want (.int .i64 (betTo es same sa sb n)) 59 #[.slice (some ⟨b, off, none⟩) n c, .slice (some ⟨b1, o1, none⟩) m c1, .int .i64 sa, .int .i64 sb] (by kernel_rfl) rfl (fun bq W hW => by cases hW; simp [go_sem]) (fun bq W hW => by cases hW; exact (between_any (some ⟨b, off, none⟩) n c es (some ⟨b1, o1, none⟩) m c1 same sa sb wr.drew (h.ext (Ext.trans hxw (ext_drew _))) (h1.ext (Ext.trans hxw (ext_drew _))) hg).mono (by rintro e W' ⟨rfl, rfl⟩; exact ⟨rfl, rfl⟩)) ?_
              refine flow_want (.bool false) (by kernel_rfl) rfl (fun bq W hW => by cases hW; simp [go_sem, hle]) ?_
              refine flow_pure (.bool false) rfl rfl (fun bq W hW => by cases hW; simp [go_sem]) ?_
              refine flow_nil fun W hW => ?_
              cases hW
              go_frame
              go_wp2
              have hrowD := own_ext hrow' (ext_drew _)
              have hgrD := World.grownBy.trans hgr' (show wr.grownBy wr.drew (Value.ownBlock (.slice (some ⟨g, 0, none⟩) m c5)) from ⟨rfl, rfl, rfl, Nat.le_refl _, fun _ _ _ => rfl⟩)
              obtain ⟨Wd, hWd⟩ : ∃ Wd, Hid (wr.drew = Wd) := ⟨_, rfl⟩
              rw [hWd.out] at qa qb hrowD hgrD ⊢
              have htot : total O' ≤ total O := by
                cases ag with
                | true => exact Nat.le_of_lt (ha1 rfl)
                | false => rw [(ha2 rfl).1]; exact Nat.le_refl _
              have hmg := I'.merge hcs Adj.symm' HCA.out HCB.out (bet_adj (fun e => hq (by rw [e])) (by omega)) hq
              obtain ⟨va, hva⟩ : ∃ va, Hid (nth O' sa.toNat = va) := ⟨_, rfl⟩
              obtain ⟨vb, hvb⟩ : ∃ vb, Hid (nth O' sb.toNat = vb) := ⟨_, rfl⟩
              rw [hva.out, hvb.out] at hmg hq
              rw [hva.out] at qa
              rw [hvb.out] at qb
              have HMG := Lib.hid hmg
              have HLE := Lib.hid hle
              have HA1 := Lib.hid ha1
              have HA2 := Lib.hid ha2
              clear hmg hle ha1 ha2
              rcases Int.lt_or_gt_of_ne hq with hlt2 | hlt2
              · have hle2 : va ≤ vb := by omega
                have hmg := HMG.out
                rw [Int.min_eq_left hle2, Int.max_eq_right hle2] at hmg
                have hne2 : (va == vb) = false := beq_f (by omega)
                have HMG2 := Lib.hid hmg
                clear hmg
                go_quiet (fail)
                obtain ⟨We, hWe⟩ : ∃ We, Hid (We = Wd.drewN nq) := ⟨_, rfl⟩
                have hxe : Ext Wd We := by rw [hWe.out]; exact ext_drewN _ _
                rw [← hWe.out]
                have qa := cell_ext hxe qa
                have qb := cell_ext hxe qb
                go_wp2
                go_quiet (fail)
                obtain ⟨Wf, hWf⟩ : ∃ Wf, Hid (Wf = We.drewN nq) := ⟨_, rfl⟩
                have hxf : Ext We Wf := by rw [hWf.out]; exact ext_drewN _ _
                rw [← hWf.out]
                have hxx := Ext.trans hxe hxf
                have hrowE := own_ext hrowD hxx
                have hgrE := World.grownBy.trans hgrD (show Wd.grownBy Wf (Value.ownBlock (.slice (some ⟨g, 0, none⟩) m c5)) from ⟨hxx.os, hxx.tape, hxx.output, hxx.size, fun k hk _ => hxx.block k hk⟩)
                have hlenO := I'.len
                have HG := Lib.hid hgrE
                clear hrow' hrowD hgr' hgrD qa qb hgrE hxx hxe hxf
                go_wp2
                go_loopw [12] (fun t wx => ∃ i : Nat, i ≤ m ∧ t = .int .i64 i ∧ wx.ownsRow w.heap.size 3 1 (.slice (some ⟨g, 0, none⟩) m c5) m (ints (mergeTo O' va vb i)) ∧ Wf.grownBy wx (some g)) (fun t _ => m - (intOf t).toNat)
                case atStart => exact ⟨0, Nat.zero_le _, rfl, hrowE, World.grownBy.refl _ _⟩
                case round =>
                  obtain ⟨i, hi, rfl, hrowi, hgi⟩ := hrel
                  by_cases hil : i < m
                  · obtain ⟨q1, q2⟩ := own_at hrowi i hil
                    rw [mergeTo_nth i (by omega), if_neg (fun h => Nat.lt_irrefl _ h.1)] at q1
                    by_cases hhi : nth O' i = vb
                    · have hb := beq_t hhi
                      obtain ⟨hst, hgs⟩ := own_store hrowi i va
                      have hmm : (mergeTo O' va vb i).set i va = mergeTo O' va vb (i + 1) := by rw [mergeTo, if_pos hhi]
                      rw [hmm] at hst
                      have HF := Lib.hid (And.intro hst (hgi.trans hgs))
                      clear hst hgs hmm hrowi hgi hhi
                      go_wp2
                      go_roundw
                      case rel => exact ⟨i + 1, by omega, by go_num, HF.out.1, HF.out.2⟩
                      case measure => (simp [intOf]; omega)
                    · have hb := beq_f hhi
                      have hmm : mergeTo O' va vb i = mergeTo O' va vb (i + 1) := by rw [mergeTo, if_neg hhi]
                      rw [hmm] at hrowi
                      have HF := Lib.hid (And.intro hrowi hgi)
                      clear hmm hrowi hgi hhi
                      go_wp2
                      go_roundw
                      case rel => exact ⟨i + 1, by omega, by go_num, HF.out.1, HF.out.2⟩
                      case measure => (simp [intOf]; omega)
                  · obtain rfl : i = m := by omega
                    have HF := Lib.hid (And.intro hrowi (World.grownBy.trans HG.out hgi))
                    clear hrowi hgi
                    go_wp2
                    go_roundg (n - (k + 1))
                    case measure => exact Nat.lt_of_lt_of_le (Nat.sub_lt_sub_left hlt (Nat.lt_succ_self k)) hg2
                    case rel => exact ⟨k + 1, _, true, Nat.le_refl _, by omega, by go_num, rfl, HMG2.out.1, fun _ => Nat.lt_of_lt_of_le HMG2.out.2 htot, fun h => (by cases h), HF.out.1, HF.out.2⟩
              · have hle2 : vb ≤ va := by omega
                have hmg := HMG.out
                rw [Int.min_eq_right hle2, Int.max_eq_left hle2] at hmg
                have hne2 : (vb == va) = false := beq_f (by omega)
                have HMG2 := Lib.hid hmg
                clear hmg
                go_quiet (fail)
                obtain ⟨We, hWe⟩ : ∃ We, Hid (We = Wd.drewN nq) := ⟨_, rfl⟩
                have hxe : Ext Wd We := by rw [hWe.out]; exact ext_drewN _ _
                rw [← hWe.out]
                have qa := cell_ext hxe qa
                have qb := cell_ext hxe qb
                go_wp2
                go_quiet (fail)
                obtain ⟨Wf, hWf⟩ : ∃ Wf, Hid (Wf = We.drewN nq) := ⟨_, rfl⟩
                have hxf : Ext We Wf := by rw [hWf.out]; exact ext_drewN _ _
                rw [← hWf.out]
                have hxx := Ext.trans hxe hxf
                have hrowE := own_ext hrowD hxx
                have hgrE := World.grownBy.trans hgrD (show Wd.grownBy Wf (Value.ownBlock (.slice (some ⟨g, 0, none⟩) m c5)) from ⟨hxx.os, hxx.tape, hxx.output, hxx.size, fun k hk _ => hxx.block k hk⟩)
                have hlenO := I'.len
                have HG := Lib.hid hgrE
                clear hrow' hrowD hgr' hgrD qa qb hgrE hxx hxe hxf
                go_wp2
                go_loopw [12] (fun t wx => ∃ i : Nat, i ≤ m ∧ t = .int .i64 i ∧ wx.ownsRow w.heap.size 3 1 (.slice (some ⟨g, 0, none⟩) m c5) m (ints (mergeTo O' vb va i)) ∧ Wf.grownBy wx (some g)) (fun t _ => m - (intOf t).toNat)
                case atStart => exact ⟨0, Nat.zero_le _, rfl, hrowE, World.grownBy.refl _ _⟩
                case round =>
                  obtain ⟨i, hi, rfl, hrowi, hgi⟩ := hrel
                  by_cases hil : i < m
                  · obtain ⟨q1, q2⟩ := own_at hrowi i hil
                    rw [mergeTo_nth i (by omega), if_neg (fun h => Nat.lt_irrefl _ h.1)] at q1
                    by_cases hhi : nth O' i = va
                    · have hb := beq_t hhi
                      obtain ⟨hst, hgs⟩ := own_store hrowi i vb
                      have hmm : (mergeTo O' vb va i).set i vb = mergeTo O' vb va (i + 1) := by rw [mergeTo, if_pos hhi]
                      rw [hmm] at hst
                      have HF := Lib.hid (And.intro hst (hgi.trans hgs))
                      clear hst hgs hmm hrowi hgi hhi
                      go_wp2
                      go_roundw
                      case rel => exact ⟨i + 1, by omega, by go_num, HF.out.1, HF.out.2⟩
                      case measure => (simp [intOf]; omega)
                    · have hb := beq_f hhi
                      have hmm : mergeTo O' vb va i = mergeTo O' vb va (i + 1) := by rw [mergeTo, if_neg hhi]
                      rw [hmm] at hrowi
                      have HF := Lib.hid (And.intro hrowi hgi)
                      clear hmm hrowi hgi hhi
                      go_wp2
                      go_roundw
                      case rel => exact ⟨i + 1, by omega, by go_num, HF.out.1, HF.out.2⟩
                      case measure => (simp [intOf]; omega)
                  · obtain rfl : i = m := by omega
                    have HF := Lib.hid (And.intro hrowi (World.grownBy.trans HG.out hgi))
                    clear hrowi hgi
                    go_wp2
                    go_roundg (n - (k + 1))
                    case measure => exact Nat.lt_of_lt_of_le (Nat.sub_lt_sub_left hlt (Nat.lt_succ_self k)) hg2
                    case rel => exact ⟨k + 1, _, true, Nat.le_refl _, by omega, by go_num, rfl, HMG2.out.1, fun _ => Nat.lt_of_lt_of_le HMG2.out.2 htot, fun h => (by cases h), HF.out.1, HF.out.2⟩
        · obtain rfl : k = n := by omega
          go_wp2
          go_roundg (2 * total O' + (if ag = true then 1 else 0))
          case measure =>
            have := HGG.out
            cases ag with
            | true => have := ha1 rfl; simp only [if_true]; omega
            | false => rw [(ha2 rfl).1]; simp only [Bool.false_eq_true, if_false]; omega
          case rel => exact ⟨O', ag, rfl, I', Nat.le_refl _, fun h => by rw [(ha2 h).1]; exact (ha2 h).2, hrow', hgr'⟩

end Go.Proofs.Ytiapdpbcnbgdmaa

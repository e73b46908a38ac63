import Derived.Test.YtiapdpbcnbgdmaaCw
set_option linter.unusedVariables false
set_option linter.unusedSimpArgs false
namespace Go.Proofs.Ytiapdpbcnbgdmaa
open Go.RowKit

def lessB : List Int → List Int → Bool
  | x :: xs, y :: ys => if x = y then lessB xs ys else decide (x < y)
  | _, _ => false
theorem lessB_at : ∀ (i : Nat) (xs ys : List Int), (∀ k, k < i → nth xs k = nth ys k) → i < xs.length → i < ys.length → nth xs i ≠ nth ys i → lessB xs ys = decide (nth xs i < nth ys i)
  | 0, x :: xs, y :: ys, _, _, _, hne => by
    have hne : x ≠ y := hne
    rw [lessB, if_neg hne]
    rfl
  | i + 1, x :: xs, y :: ys, h, h1, h2, hne => by
    have h0 : x = y := h 0 (by omega)
    rw [lessB, if_pos h0]
    exact lessB_at i xs ys (fun k hk => h (k + 1) (by omega)) (by simpa using h1) (by simpa using h2) hne
theorem lessB_self : ∀ xs : List Int, lessB xs xs = false
  | [] => rfl
  | x :: xs => by rw [lessB, if_pos rfl]; exact lessB_self xs
theorem nth_ext {xs ys : List Int} (hl : xs.length = ys.length) (h : ∀ k, k < xs.length → nth xs k = nth ys k) : xs = ys := by
  refine List.ext_getElem hl fun i h1 h2 => ?_
  have := h i h1
  unfold nth at this
  simpa [List.getD_eq_getElem?_getD, h1, h2] using this
theorem lessB_both : ∀ {xs ys : List Int}, xs.length = ys.length → lessB xs ys = false → lessB ys xs = false → xs = ys
  | [], [], _, _, _ => rfl
  | x :: xs, y :: ys, hl, h1, h2 => by
    rw [lessB] at h1 h2
    by_cases e : x = y
    · rw [if_pos e] at h1
      rw [if_pos e.symm] at h2
      rw [e, lessB_both (by simpa using hl) h1 h2]
    · rw [if_neg e] at h1
      rw [if_neg (Ne.symm e)] at h2
      simp only [decide_eq_false_iff_not] at h1 h2
      omega
set_option maxHeartbeats 1000000 in
theorem less_any (A1 : Option Addr) (n c1 : Nat) (xs : List Int) (A2 : Option Addr) (c2 : Nat) (ys : List Int) (w : World) (h1 : RInts w A1 n xs) (h2 : RInts w A2 n ys) :
    Calls Try.prog 42 #[.slice A1 n c1, .slice A2 n c2] w fun e w' => e = .returned (.bool (lessB xs ys)) ∧ Ext w w' := by
  have hbig := h1.big
  have hl1 := h1.len
  have hl2 := h2.len
  go_enter Try.func42, Try.ntmps42
  go_wp2
  go_loopw [5] (fun t wr => ∃ i : Nat, i ≤ n ∧ t = .int .i64 i ∧ Hid (∀ k, k < i → nth xs k = nth ys k) ∧ Ext w wr) (fun t _ => n - (intOf t).toNat)
  case atStart => exact ⟨0, Nat.zero_le _, rfl, Lib.hid (fun k hk => absurd hk (Nat.not_lt_zero _)), ⟨rfl, rfl, rfl, Nat.le_refl _, fun _ _ => rfl⟩⟩
  case round =>
    obtain ⟨i, hi, rfl, hI, hx⟩ := hrel
    by_cases hlt : i < n
    · obtain ⟨b1, o1, rfl, hc1⟩ := h1.cell (by omega)
      obtain ⟨b2, o2, rfl, hc2⟩ := h2.cell (by omega)
      have q1 := cell_ext hx (hc1 i hlt)
      have q2 := cell_ext hx (hc2 i hlt)
      clear hc1 hc2
      by_cases he : nth xs i = nth ys i
      · have hne := bne_f he
        have HI := hid_succ hI he
        clear hI he
        go_wp2
        go_quiet (fail)
        go_wp2
        go_roundw
        case rel => exact ⟨i + 1, by omega, by go_num, HI, Ext.trans hx (ext_drewN _ _)⟩
        case measure => (simp [intOf]; omega)
      · have hne := bne_t he
        have hfin := Lib.hid (lessB_at i xs ys hI.out (by omega) (by omega) he)
        clear hI he
        go_wp2
        go_quiet (fail)
        go_wp2
        go_quiet (fail)
        go_wp2
        go_ret
        exact ⟨by rw [hfin.out]; rfl, Ext.trans (Ext.trans hx (ext_drewN _ _)) (ext_drewN _ _)⟩
    · obtain rfl : i = n := by omega
      have hfin := Lib.hid (nth_ext (hl1.trans hl2.symm) (fun k hk => hI.out k (by omega)))
      clear hI
      go_wp2
      go_ret
      exact ⟨by rw [hfin.out, lessB_self]; rfl, hx⟩
set_option maxHeartbeats 1000000 in
theorem ints_any (A1 : Option Addr) (n c1 : Nat) (xs : List Int) (A2 : Option Addr) (m c2 : Nat) (ys : List Int) (w : World) (h1 : RInts w A1 n xs) (h2 : RInts w A2 m ys) :
    Calls Try.prog 14 #[.slice A1 n c1, .slice A2 m c2] w fun e w' => e = .returned (.bool (decide (xs = ys))) ∧ Ext w w' := by
  have hbig := h1.big
  have hbig2 := h2.big
  have hl1 := h1.len
  have hl2 := h2.len
  by_cases hnm : n = m
  · subst hnm
    have hc := less_any A1 n c1 xs A2 c2 ys w h1 h2
    cases hb : lessB xs ys with
    | true =>
      rw [hb] at hc
      have hne : decide (xs = ys) = false := decide_eq_false (fun e => by rw [e, lessB_self] at hb; cases hb)
      go_enter Try.func14, Try.ntmps14
      go_wp2_with (go_at_call 42; refine hc.mono ?_; rintro e w1 ⟨rfl, hx⟩)
      go_ret
      exact ⟨by rw [hne]; rfl, hx⟩
    | false =>
      rw [hb] at hc
      have hc2 := fun W (hW : Ext w W) => less_any A2 n c2 ys A1 c1 xs W (h2.ext hW) (h1.ext hW)
      cases hb2 : lessB ys xs with
      | true =>
        rw [hb2] at hc2
        have hne : decide (xs = ys) = false := decide_eq_false (fun e => by rw [e, lessB_self] at hb2; cases hb2)
        go_enter Try.func14, Try.ntmps14
        go_wp2_with (first | (go_at_call 42; refine (hc2 _ hx).mono ?_; rintro e w2 ⟨rfl, hx2⟩) | (go_at_call 42; refine hc.mono ?_; rintro e w1 ⟨rfl, hx⟩))
        go_ret
        exact ⟨by rw [hne]; rfl, Ext.trans hx hx2⟩
      | false =>
        rw [hb2] at hc2
        have hne : decide (xs = ys) = true := decide_eq_true (lessB_both (hl1.trans hl2.symm) hb hb2)
        go_enter Try.func14, Try.ntmps14
        go_wp2_with (first | (go_at_call 42; refine (hc2 _ hx).mono ?_; rintro e w2 ⟨rfl, hx2⟩) | (go_at_call 42; refine hc.mono ?_; rintro e w1 ⟨rfl, hx⟩))
        go_ret
        exact ⟨by rw [hne]; rfl, Ext.trans hx hx2⟩
  · have hne : decide (xs = ys) = false := decide_eq_false (fun e => by subst e; omega)
    have hnb : ((n : Int) == m) = false := beq_f (by omega)
    go_enter Try.func14, Try.ntmps14
    go_wp2
    go_ret
    exact ⟨by rw [hne]; rfl, ⟨rfl, rfl, rfl, Nat.le_refl _, fun _ _ => rfl⟩⟩
theorem few_any (A1 : Option Addr) (n c1 : Nat) (A2 : Option Addr) (m c2 : Nat) (A3 : Option Addr) (q c3 : Nat) (k : Int) (w : World) (h1 : n ≤ 35184372088832) (h2 : m ≤ 35184372088832) (h3 : q ≤ 35184372088832) :
    Calls Try.prog 11 #[.slice A1 n c1, .slice A2 m c2, .slice A3 q c3, .int .i64 k] w fun e w' => e = .returned (.bool (decide ((m : Int) ≤ k ∧ n ≤ 80 ∧ q ≤ 40))) ∧ w = w' := by
  go_enter Try.func11, Try.ntmps11
  go_wp2
  all_goals (go_ret; refine ⟨ret_bool ?_, rfl⟩; symm; first | (rw [decide_eq_true_iff]; omega) | (rw [decide_eq_false_iff_not]; omega) | (rw [Bool.eq_iff_iff]; simp only [decide_eq_true_eq, Bool.or_eq_true, Bool.and_eq_true]; omega) | (simp; omega))
theorem edge_any (a b x : Int) (w : World) : Calls Try.prog 23 #[.int .i64 a, .int .i64 b, .int .i64 x] w fun e w' => e = .returned (.agg #[.int .i64 a, .int .i64 b, .int .i64 x]) ∧ Ext w w' := by
  have hnew := heap_alloc_new w (.cells #[.int .i64 a, .int .i64 b, .int .i64 x] 40)
  obtain ⟨d0, f0⟩ := cells_of hnew 0 rfl
  obtain ⟨d1, f1⟩ := cells_of hnew 1 rfl
  obtain ⟨d2, f2⟩ := cells_of hnew 2 rfl
  have hx := ext_alloc w (.cells #[.int .i64 a, .int .i64 b, .int .i64 x] 40)
  go_enter Try.func23, Try.ntmps23
  go_wp2
  refine bodyPost_ret (v := .agg #[.int .i64 a, .int .i64 b, .int .i64 x]) ?_ rfl ⟨rfl, hx⟩
  simp [results, Try.results23, go_sem, d0, d1, d2]
set_option maxHeartbeats 1000000 in
theorem is_any (A : Option Addr) (n c : Nat) (es : List E3) (A1 : Option Addr) (m c1 : Nat) (same : List Int) (A2 : Option Addr) (q c2 : Nat) (ps : List (Int × Int)) (A3 : Option Addr) (m3 c3 : Nat) (want : List Int) (w : World)
    (h : REdges w A n es) (h1 : RInts w A1 m same) (h2 : RPairs w A2 q ps) (h3 : RInts w A3 m3 want) (hm : m ≤ 40) (hn : n ≤ 80) (hg : goodB es same ps = true) (hw : ∀ ent, ClusterP es same ps ent → ent = want) :
    Calls Try.prog 24 #[.slice A n c, .slice A1 m c1, .slice A2 q c2, .slice A3 m3 c3] w fun e w' => e = .returned (.bool true) ∧ Ext w w' := by
  have hc := cluster_any A n c es A1 m c1 same A2 q c2 ps w h h1 h2 hm hn
  simp only [hg, if_true] at hc
  obtain rfl := h3.len
  go_enter Try.func24, Try.ntmps24
  go_wp2_with (first
    | (go_at_call 12
       refine hc.mono ?_
       rintro e w1 ⟨v, k, rfl, hx, rfl, ent, hcp, hrow⟩
       have hent := hw ent hcp
       subst hent
       obtain rfl : ent.length = m := by have := hrow.1; simpa using this
       obtain ⟨A4, c4, rfl, hr4⟩ := own_reads hrow (by omega))
    | (go_at_call 14
       refine (ints_any A4 ent.length c4 ent A3 ent.length c3 ent _ hr4 (h3.ext hx)).mono ?_
       rintro e w2 ⟨rfl, hx2⟩
       rw [decide_eq_true (rfl : ent = ent)]))
  go_ret
  exact ⟨rfl, Ext.trans hx hx2⟩

end Go.Proofs.Ytiapdpbcnbgdmaa

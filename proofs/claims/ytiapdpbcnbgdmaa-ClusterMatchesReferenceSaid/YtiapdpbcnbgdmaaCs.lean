import Derived.Test.YtiapdpbcnbgdmaaCmp
import Derived.Test.YtiapdpbcnbgdmaaMem
set_option linter.unusedVariables false
set_option linter.unusedSimpArgs false
namespace Go.Proofs.Ytiapdpbcnbgdmaa
open Go.RowKit

/-- What is known of edges and pairs that are linked, paired. -/
def GoodE (m : Nat) (es : List E3) (n : Nat) : Prop := (∀ j, j < n → inR m (eth es j) ∧ -1000000000 ≤ (eth es j).w ∧ (eth es j).w ≤ 1000000000) ∧ n ≤ 20000
def GoodP (m : Nat) (ps : List (Int × Int)) (q : Nat) : Prop := ∀ j, j < q → 0 ≤ (pth ps j).1 ∧ (pth ps j).1 < m ∧ 0 ≤ (pth ps j).2 ∧ (pth ps j).2 < m
theorem linkedB_good {m n : Nat} {es : List E3} (hl : es.length = n) (h : linkedB m es = true) : GoodE m es n ∧ ∀ j, j < n → (eth es j).a ≠ (eth es j).b := by
  unfold linkedB at h
  rw [Bool.and_eq_true, hl] at h
  obtain ⟨h1, h2⟩ := h
  have h1 : n ≤ 20000 := by simpa using h1
  have h3 : ∀ j, j < n → badE m (eth es j).a (eth es j).b (eth es j).w = false := by
    intro j hj
    rw [Bool.not_eq_true', List.any_eq_false] at h2
    have := h2 j (by simpa using hj)
    simpa using this
  refine ⟨⟨fun j hj => ?_, h1⟩, fun j hj => ?_⟩
  · have := h3 j hj
    unfold badE at this
    rw [decide_eq_false_iff_not] at this
    unfold inR
    omega
  · have := h3 j hj
    unfold badE at this
    rw [decide_eq_false_iff_not] at this
    omega
theorem pairedB_good {m q : Nat} {ps : List (Int × Int)} (hl : ps.length = q) (h : pairedB m ps = true) : GoodP m ps q := by
  unfold pairedB at h
  rw [hl] at h
  intro j hj
  rw [Bool.not_eq_true', List.any_eq_false] at h
  have := h j (by simpa using hj)
  unfold badP at this
  simp only [decide_eq_true_eq] at this
  omega
theorem validB_good {same : List Int} (h : validB same = true) : ValidP same := by unfold validB at h; simpa using h
theorem same_cls {same : List Int} {m : Nat} (hv : ValidP same) (hl : same.length = m) {i : Int} (h0 : 0 ≤ i) (h1 : i < m) : Cls same m (nth same i.toNat) := by
  obtain ⟨k1, k2, k3⟩ := hv.1 i.toNat (by omega)
  exact ⟨k1, by omega, k3⟩
theorem wTo_cls {same : List Int} {m n : Nat} {es : List E3} (hv : ValidP same) (hl : same.length = m) (he : GoodE m es n) (p : Int × Int) (x : Int) : ∀ k, k ≤ n → wTo es same k p = some x → Cls same m p.1 ∧ Cls same m p.2 ∧ p.1 < p.2 := by
  intro k
  induction k generalizing x with
  | zero => intro _ h; cases h
  | succ k ih =>
    intro hk h
    rw [wTo] at h
    split at h
    · rename_i hh
      obtain ⟨hne, rfl⟩ := hh
      obtain ⟨h1, h2, h3, h4⟩ := (he.1 k (by omega)).1
      have ka := same_cls hv hl h1 h2
      have kb := same_cls hv hl h3 h4
      refine ⟨?_, ?_, ?_⟩
      · show Cls same m (min _ _); rcases Int.le_total (nth same (eth es k).a.toNat) (nth same (eth es k).b.toNat) with h | h
        · rwa [Int.min_eq_left h]
        · rwa [Int.min_eq_right h]
      · show Cls same m (max _ _); rcases Int.le_total (nth same (eth es k).a.toNat) (nth same (eth es k).b.toNat) with h | h
        · rwa [Int.max_eq_right h]
        · rwa [Int.max_eq_left h]
      · show min _ _ < max _ _; omega
    · exact ih x (by omega) h
theorem aTo_cls {same : List Int} {m q : Nat} {ps : List (Int × Int)} (hv : ValidP same) (hl : same.length = m) (he : GoodP m ps q) (p : Int × Int) (x : Bool) : ∀ k, k ≤ q → aTo ps same k p = some x → x = true ∧ Cls same m p.1 ∧ Cls same m p.2 ∧ p.1 < p.2 := by
  intro k
  induction k generalizing x with
  | zero => intro _ h; cases h
  | succ k ih =>
    intro hk h
    rw [aTo] at h
    split at h
    · rename_i hh
      obtain ⟨hne, rfl⟩ := hh
      obtain ⟨h1, h2, h3, h4⟩ := he k (by omega)
      have ka := same_cls hv hl h1 h2
      have kb := same_cls hv hl h3 h4
      refine ⟨by cases h; rfl, ?_, ?_, ?_⟩
      · show Cls same m (min _ _); rcases Int.le_total (nth same (pth ps k).1.toNat) (nth same (pth ps k).2.toNat) with h | h
        · rwa [Int.min_eq_left h]
        · rwa [Int.min_eq_right h]
      · show Cls same m (max _ _); rcases Int.le_total (nth same (pth ps k).1.toNat) (nth same (pth ps k).2.toNat) with h | h
        · rwa [Int.max_eq_right h]
        · rwa [Int.max_eq_left h]
      · show min _ _ < max _ _; omega
    · exact ih x (by omega) h
/-- The marks by edges and classes. -/
def MarksOf (es : List E3) (same : List Int) (ms : List Int) : Prop := MarkOk same same.length (Adj (wTo es same es.length)) ms

set_option maxHeartbeats 1000000 in
theorem componentsF_any (A : Option Addr) (n c : Nat) (es : List E3) (A1 : Option Addr) (m c1 : Nat) (same : List Int) (w : World) (h : REdges w A n es) (h1 : RInts w A1 m same) :
    Calls Try.prog 20 #[.slice A n c, .slice A1 m c1] w fun e w' => ∃ v, e = .returned v ∧ Ext w w' ∧
      (if (validB same && linkedB m es) = true then ∃ vs ms, MarksOf es same ms ∧ Fam w' w.heap.size v vs ((memTo ms m).map (·.2)) else v = .slice none 0 0) := by
  have hc1 := valid_any A1 m c1 same w h1
  cases hvb : validB same with
  | false =>
    rw [hvb] at hc1
    go_enter Try.func20, Try.ntmps20
    go_wp2_with (go_at_call 25; refine hc1.mono ?_; rintro e w' ⟨rfl, rfl⟩)
    refine bodyPost_ret (v := .slice none 0 0) (by simp [results, Try.results20, go_sem]) rfl ⟨rfl, Below.refl _ _⟩
  | true =>
    rw [hvb] at hc1
    have hc2 := linked_any m A n c es w h
    cases hlb : linkedB m es with
    | false =>
      rw [hlb] at hc2
      go_enter Try.func20, Try.ntmps20
      go_wp2_with (first | (go_at_call 25; refine hc1.mono ?_; rintro e w' ⟨rfl, rfl⟩) | (go_at_call 26; refine hc2.mono ?_; rintro e w1 ⟨rfl, hb⟩))
      exact bodyPost_ret (v := .slice none 0 0) (by simp [results, Try.results20, go_sem]) rfl ⟨rfl, hb⟩
    | true =>
      rw [hlb] at hc2
      have hv := validB_good hvb
      obtain ⟨ge, _⟩ := linkedB_good h.len hlb
      have hm : m ≤ 2000 := by have := hv.2; rw [h1.len] at this; exact this
      have hcl := wTo_cls hv h1.len ge
      have hel := h.len
      have hsl := h1.len
      have hfinal : ∀ ms, MarkOk same m (Adj (wTo es same n)) ms → MarksOf es same ms := fun ms hmk => by unfold MarksOf; rw [hel, hsl]; exact hmk
      have hc3 : ∀ W, Ext w W → Calls Try.prog 28 #[.slice A n c, .slice A1 m c1, .slice none 0 0] W fun e w' => ∃ r1 r2, e = .returned (.agg #[.slice A1 m c1, .map (some r1), .map (some r2)]) ∧ MapFn w' r1 kvP vvI (wTo es same n) ∧ MapFn w' r2 kvP vvB (aTo [] same 0) ∧ Ext W w' :=
        fun W hW => gather_any A n c es A1 m c1 same none 0 0 [] W (h.ext hW) (h1.ext hW) ⟨rfl, by omega, fun h => absurd h (by omega)⟩ hv ge.1 ge.2 (fun j hj => absurd hj (by omega))
      have hc4 : ∀ r1 r2 W, Ext w W → MapFn W r1 kvP vvI (wTo es same n) → Calls Try.prog 31 #[.agg #[.slice A1 m c1, .map (some r1), .map (some r2)]] W fun e w' => ∃ v ms, e = .returned v ∧ w'.ownsRow W.heap.size 3 1 v m (ints ms) ∧ MarkOk same m (Adj (wTo es same n)) ms ∧ Ext W w' :=
        fun r1 r2 W hW hM => components_any A1 m c1 same r1 r2 _ W (h1.ext hW) hM hv hm (fun p x hp => hcl p x n (Nat.le_refl _) hp)
      go_enter Try.func20, Try.ntmps20
      go_wp2_with (first | (go_at_call 25; refine hc1.mono ?_; rintro e w' ⟨rfl, rfl⟩) | (go_at_call 26; refine hc2.mono ?_; rintro e w1 ⟨rfl, hb1⟩) | (go_at_call 28; refine (hc3 _ hb1).mono ?_; rintro e w2 ⟨r1, r2, rfl, hM1, hM2, hb2⟩) | (go_at_call 31; refine (hc4 r1 r2 _ (Ext.trans hb1 hb2) hM1).mono ?_; rintro e w3 ⟨v, ms, rfl, hrow, hmk, hb3⟩; obtain rfl : ms.length = m := hmk.1; obtain ⟨A', c', rfl, hr'⟩ := own_reads hrow (by omega)) | (go_at_call 30; refine (members_any A' _ c' ms _ hr' (by omega)).mono ?_; rintro e w4 ⟨v, vs, rfl, hF, hb4⟩))
      have hx3 : Ext w w3 := Ext.trans (Ext.trans hb1 hb2) hb3
      refine bodyPost_ret (v := v) (by simp [results, Try.results20, go_sem]) rfl ⟨_, rfl, Ext.trans hx3 hb4, ?_⟩
      exact ⟨vs, ms, hfinal ms hmk, hF.base hx3.size⟩

end Go.Proofs.Ytiapdpbcnbgdmaa

import Derived.Test.YtiapdpbcnbgdmaaB
set_option linter.unusedVariables false
set_option linter.unusedSimpArgs false
namespace Go.Proofs.Ytiapdpbcnbgdmaa
open Go.RowKit

set_option maxHeartbeats 400000 in
theorem indexEdges (g : Nat) (lb : Array Value) (eg : ∀ args w, (callFunc g args).run Try.prog w = .ok (.enter g args) w) (p : Nat → Bool) (A : Option Addr) (n c : Nat) (es : List E3) (w : World) (h : REdges w A n es)
    (hp : ∀ j, j < n → ∀ W, Ext w W → Calls Try.prog g (#[.agg #[.int .i64 (eth es j).a, .int .i64 (eth es j).b, .int .i64 (eth es j).w]] ++ lb) W fun e W' => e = .returned (.bool (p j)) ∧ Ext W W') :
    Calls Try.prog 62 #[.slice A n c, .func (.func g) #[] lb] w fun e w' => e = .returned (.int .i64 (firstIdx p n)) ∧ Ext w w' := by
  go_enter Try.func62, Try.ntmps62
  go_wp2
  go_loopw [5, 8] (fun _ t wr => ∃ k : Nat, k ≤ n ∧ t = .int .i64 k ∧ Hid (∀ i, i < k → p i = false) ∧ Ext w wr) (fun _ t _ => n - (intOf t).toNat)
  case atStart => exact ⟨0, Nat.zero_le _, rfl, fun i hi => absurd hi (Nat.not_lt_zero _), Below.refl _ _⟩
  case round =>
    obtain ⟨k, hk, rfl, hI, hb⟩ := hrel
    have hbig := h.big
    by_cases hlt : k < n
    · obtain ⟨b, off, rfl, hcell⟩ := h.cell (by omega)
      have hc1 := cell_ext hb (hcell k hlt).1
      have hc2 := cell_ext hb (hcell k hlt).2.1
      have hc3 := cell_ext hb (hcell k hlt).2.2
      have hcall := hp k hlt _ hb
      clear hp h hcell
      cases hq : p k with
      | true =>
        rw [hq] at hcall
        have HQ : Hid (p k = true) := hq
        clear hq
        go_wp2_with (refine hcall.mono ?_; rintro e w' ⟨rfl, hb'⟩)
        go_ret
        exact ⟨ret_int (firstIdx_hit p n k hlt HQ hI).symm, hb.trans hb'⟩
      | false =>
        rw [hq] at hcall
        have HQ : Hid (p k = false) := hq
        clear hq
        go_wp2_with (refine hcall.mono ?_; rintro e w' ⟨rfl, hb'⟩)
        go_roundw
        case rel => exact ⟨k + 1, by omega, by go_num, hid_succ hI HQ, hb.trans hb'⟩
        case measure => (simp [intOf]; omega)
    · go_wp2
      go_ret
      exact ⟨ret_int (firstIdx_miss p n fun j hj => hI j (by omega)).symm, hb⟩
set_option maxHeartbeats 400000 in
theorem indexPairs (g : Nat) (lb : Array Value) (eg : ∀ args w, (callFunc g args).run Try.prog w = .ok (.enter g args) w) (p : Nat → Bool) (A : Option Addr) (n c : Nat) (es : List (Int × Int)) (w : World) (h : RPairs w A n es)
    (hp : ∀ j, j < n → ∀ W, Ext w W → Calls Try.prog g (#[.agg #[.int .i64 (pth es j).1, .int .i64 (pth es j).2]] ++ lb) W fun e W' => e = .returned (.bool (p j)) ∧ Ext W W') :
    Calls Try.prog 61 #[.slice A n c, .func (.func g) #[] lb] w fun e w' => e = .returned (.int .i64 (firstIdx p n)) ∧ Ext w w' := by
  go_enter Try.func61, Try.ntmps61
  go_wp2
  go_loopw [5, 8] (fun _ t wr => ∃ k : Nat, k ≤ n ∧ t = .int .i64 k ∧ Hid (∀ i, i < k → p i = false) ∧ Ext w wr) (fun _ t _ => n - (intOf t).toNat)
  case atStart => exact ⟨0, Nat.zero_le _, rfl, fun i hi => absurd hi (Nat.not_lt_zero _), Below.refl _ _⟩
  case round =>
    obtain ⟨k, hk, rfl, hI, hb⟩ := hrel
    have hbig := h.big
    by_cases hlt : k < n
    · obtain ⟨b, off, rfl, hcell⟩ := h.cell (by omega)
      have hc1 := cell_ext hb (hcell k hlt).1
      have hc2 := cell_ext hb (hcell k hlt).2
      have hcall := hp k hlt _ hb
      clear hp h hcell
      cases hq : p k with
      | true =>
        rw [hq] at hcall
        have HQ : Hid (p k = true) := hq
        clear hq
        go_wp2_with (refine hcall.mono ?_; rintro e w' ⟨rfl, hb'⟩)
        go_ret
        exact ⟨ret_int (firstIdx_hit p n k hlt HQ hI).symm, hb.trans hb'⟩
      | false =>
        rw [hq] at hcall
        have HQ : Hid (p k = false) := hq
        clear hq
        go_wp2_with (refine hcall.mono ?_; rintro e w' ⟨rfl, hb'⟩)
        go_roundw
        case rel => exact ⟨k + 1, by omega, by go_num, hid_succ hI HQ, hb.trans hb'⟩
        case measure => (simp [intOf]; omega)
    · go_wp2
      go_ret
      exact ⟨ret_int (firstIdx_miss p n fun j hj => hI j (by omega)).symm, hb⟩
set_option maxHeartbeats 400000 in
theorem indexInts (g : Nat) (lb : Array Value) (eg : ∀ args w, (callFunc g args).run Try.prog w = .ok (.enter g args) w) (p : Nat → Bool) (A : Option Addr) (n c : Nat) (es : List Int) (w : World) (h : RInts w A n es)
    (hp : ∀ j, j < n → ∀ W, Ext w W → Calls Try.prog g (#[.int .i64 (nth es j)] ++ lb) W fun e W' => e = .returned (.bool (p j)) ∧ Ext W W') :
    Calls Try.prog 52 #[.slice A n c, .func (.func g) #[] lb] w fun e w' => e = .returned (.int .i64 (firstIdx p n)) ∧ Ext w w' := by
  go_enter Try.func52, Try.ntmps52
  go_wp2
  go_loopw [5, 8] (fun _ t wr => ∃ k : Nat, k ≤ n ∧ t = .int .i64 k ∧ Hid (∀ i, i < k → p i = false) ∧ Ext w wr) (fun _ t _ => n - (intOf t).toNat)
  case atStart => exact ⟨0, Nat.zero_le _, rfl, fun i hi => absurd hi (Nat.not_lt_zero _), Below.refl _ _⟩
  case round =>
    obtain ⟨k, hk, rfl, hI, hb⟩ := hrel
    have hbig := h.big
    by_cases hlt : k < n
    · obtain ⟨b, off, rfl, hcell⟩ := h.cell (by omega)
      have hc1 := cell_ext hb (hcell k hlt)
      have hcall := hp k hlt _ hb
      clear hp h hcell
      cases hq : p k with
      | true =>
        rw [hq] at hcall
        have HQ : Hid (p k = true) := hq
        clear hq
        go_wp2_with (refine hcall.mono ?_; rintro e w' ⟨rfl, hb'⟩)
        go_ret
        exact ⟨ret_int (firstIdx_hit p n k hlt HQ hI).symm, hb.trans hb'⟩
      | false =>
        rw [hq] at hcall
        have HQ : Hid (p k = false) := hq
        clear hq
        go_wp2_with (refine hcall.mono ?_; rintro e w' ⟨rfl, hb'⟩)
        go_roundw
        case rel => exact ⟨k + 1, by omega, by go_num, hid_succ hI HQ, hb.trans hb'⟩
        case measure => (simp [intOf]; omega)
    · go_wp2
      go_ret
      exact ⟨ret_int (firstIdx_miss p n fun j hj => hI j (by omega)).symm, hb⟩

theorem containsEdges (g : Nat) (lb : Array Value) (eg : ∀ args w, (callFunc g args).run Try.prog w = .ok (.enter g args) w) (p : Nat → Bool) (A : Option Addr) (n c : Nat) (es : List E3) (w : World) (h : REdges w A n es)
    (hp : ∀ j, j < n → ∀ W, Ext w W → Calls Try.prog g (#[.agg #[.int .i64 (eth es j).a, .int .i64 (eth es j).b, .int .i64 (eth es j).w]] ++ lb) W fun e W' => e = .returned (.bool (p j)) ∧ Ext W W') :
    Calls Try.prog 47 #[.slice A n c, .func (.func g) #[] lb] w fun e w' => e = .returned (.bool ((List.range n).any p)) ∧ Ext w w' := by
  have hc := indexEdges g lb eg p A n c es w h hp
  rw [← firstIdx_nonneg]
  clear hp h eg
  go_enter Try.func47, Try.ntmps47
  go_wp2_with (go_at_call 62; refine hc.mono ?_; rintro e w' ⟨rfl, hb'⟩)
  go_ret
  exact ⟨rfl, hb'⟩

theorem containsPairs (g : Nat) (lb : Array Value) (eg : ∀ args w, (callFunc g args).run Try.prog w = .ok (.enter g args) w) (p : Nat → Bool) (A : Option Addr) (n c : Nat) (es : List (Int × Int)) (w : World) (h : RPairs w A n es)
    (hp : ∀ j, j < n → ∀ W, Ext w W → Calls Try.prog g (#[.agg #[.int .i64 (pth es j).1, .int .i64 (pth es j).2]] ++ lb) W fun e W' => e = .returned (.bool (p j)) ∧ Ext W W') :
    Calls Try.prog 44 #[.slice A n c, .func (.func g) #[] lb] w fun e w' => e = .returned (.bool ((List.range n).any p)) ∧ Ext w w' := by
  have hc := indexPairs g lb eg p A n c es w h hp
  rw [← firstIdx_nonneg]
  clear hp h eg
  go_enter Try.func44, Try.ntmps44
  go_wp2_with (go_at_call 61; refine hc.mono ?_; rintro e w' ⟨rfl, hb'⟩)
  go_ret
  exact ⟨rfl, hb'⟩
end Go.Proofs.Ytiapdpbcnbgdmaa

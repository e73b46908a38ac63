import Derived.Test.YtiapdpbcnbgdmaaCp
set_option linter.unusedVariables false
set_option linter.unusedSimpArgs false
namespace Go.Proofs.Ytiapdpbcnbgdmaa
open Go.RowKit

def subst (x y c : Int) : Int := if c = y then x else c
def ordP (a b : Int) : Int × Int := (min a b, max a b)
set_option maxHeartbeats 1000000 in
theorem renamed_any (a b x y : Int) (N : Nat) (w : World) (h0 : w.cell? ⟨N, 0, none⟩ = some (.int .i64 x)) (h1 : w.cell? ⟨N, 1, none⟩ = some (.int .i64 y)) :
    Calls Try.prog 55 #[.agg #[.int .i64 a, .int .i64 b], .pointer (some ⟨N, 0, none⟩)] w fun e w' => e = .returned (kvP (ordP (subst x y a) (subst x y b))) ∧ Ext w w' := by
  have hN := World.block_lt_of_cell? _ _ h0
  dsimp only at hN
  have hor := fun (u v : Int) (W : World) => ordered_any u v W
  obtain ⟨sa, hsa⟩ : ∃ sa, Hid (sa = subst x y a) := ⟨_, rfl⟩
  obtain ⟨sb, hsb⟩ : ∃ sb, Hid (sb = subst x y b) := ⟨_, rfl⟩
  rw [← hsa.out, ← hsb.out]
  have hi0 : ∀ W, (Instr.index 42 (.agg #[.int .i64 a, .int .i64 b]) (.int .i64 0)).run Try.prog W = .ok (.int .i64 a) W := fun W => by kernel_rfl
  have hi1 : ∀ W, (Instr.index 42 (.agg #[.int .i64 a, .int .i64 b]) (.int .i64 1)).run Try.prog W = .ok (.int .i64 b) W := fun W => by kernel_rfl
  go_enter Try.func55, Try.ntmps55
  go_wp2
  go_loopw [4, 5, 7] (fun _ _ t wr => (t = .int .i64 0 ∧ wr = (w.alloc (.cells #[.int .i64 a, .int .i64 b] 42)).alloc (.cells #[.int .i64 0, .int .i64 0] 42)) ∨ (t = .int .i64 1 ∧ wr = (w.alloc (.cells #[.int .i64 sa, .int .i64 b] 42)).alloc (.cells #[.int .i64 0, .int .i64 0] 42)) ∨ (t = .int .i64 2 ∧ wr = (w.alloc (.cells #[.int .i64 sa, .int .i64 sb] 42)).alloc (.cells #[.int .i64 0, .int .i64 0] 42))) (fun _ _ t _ => 2 - (intOf t).toNat)
  case atStart => exact .inl ⟨rfl, rfl⟩
  case round =>
    rcases hrel with ⟨rfl, rfl⟩ | ⟨rfl, rfl⟩ | ⟨rfl, rfl⟩
    · by_cases ha : a = y
      · have ea : (a == y) = true := beq_t ha
        have hs : sa = x := by rw [hsa.out]; simp [subst, ha]
        clear hor ha
        go_wp2
        go_roundw
        case rel => exact .inr (.inl ⟨rfl, by rw [hs]⟩)
        case measure => simp [intOf]
      · have ea : (a == y) = false := beq_f ha
        have hs : sa = a := by rw [hsa.out]; simp [subst, ha]
        clear hor ha
        go_wp2
        go_roundw
        case rel => exact .inr (.inl ⟨rfl, by rw [hs]⟩)
        case measure => simp [intOf]
    · by_cases hb : b = y
      · have eb : (b == y) = true := beq_t hb
        have hs : sb = x := by rw [hsb.out]; simp [subst, hb]
        clear hor hb
        go_wp2
        go_roundw
        case rel => exact .inr (.inr ⟨rfl, by rw [hs]⟩)
        case measure => simp [intOf]
      · have eb : (b == y) = false := beq_f hb
        have hs : sb = b := by rw [hsb.out]; simp [subst, hb]
        clear hor hb
        go_wp2
        go_roundw
        case rel => exact .inr (.inr ⟨rfl, by rw [hs]⟩)
        case measure => simp [intOf]
    · obtain ⟨W2, HW⟩ : ∃ W2, Hid (W2 = (w.alloc (.cells #[.int .i64 sa, .int .i64 sb] 42)).alloc (.cells #[.int .i64 0, .int .i64 0] 42)) := ⟨_, rfl⟩
      have hx2 : Ext w W2 := by rw [HW.out]; exact Ext.trans (ext_alloc _ _) (ext_alloc _ _)
      have q : W2.heap[w.heap.size + 1]? = some (.cells #[.int .i64 0, .int .i64 0] 42 (0, 0)) := by
        rw [HW.out]
        have := heap_alloc_new (w.alloc (.cells #[.int .i64 sa, .int .i64 sb] 42)) (.cells #[.int .i64 0, .int .i64 0] 42)
        rwa [World.size_alloc] at this
      have hcall := hor sa sb W2
      clear hor
      go_wp2_with (go_at_call 50; rw [← HW.out]; refine hcall.mono ?_; rintro e W3 ⟨rfl, hx3⟩; obtain ⟨z0, z0'⟩ := cells_of ((hx3.block _ (Array.getElem?_eq_some_iff.1 q).1).trans q) 0 rfl; obtain ⟨z1, z1'⟩ := cells_of ((hx3.block _ (Array.getElem?_eq_some_iff.1 q).1).trans q) 1 rfl)
      refine bodyPost_ret (v := kvP (ordP sa sb)) ?_ rfl ⟨rfl, ((Ext.trans hx2 hx3).setCell (p := ⟨w.heap.size + 1, 0, none⟩) (by show _ ≤ _ + 1; omega) _).setCell (p := ⟨w.heap.size + 1, 1, none⟩) (by show _ ≤ _ + 1; omega) _⟩
      simp [results, Try.results55, go_sem, z0, z1, ordP]

end Go.Proofs.Ytiapdpbcnbgdmaa

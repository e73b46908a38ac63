import Derived.Test.YtiapdpbcnbgdmaaD
set_option linter.unusedVariables false
set_option linter.unusedSimpArgs false
namespace Go.Proofs.Ytiapdpbcnbgdmaa
open Go.RowKit

theorem eg48 : ∀ args w, (callFunc 48 args).run Try.prog w = .ok (.enter 48 args) w := fun _ _ => by rfl
theorem eg49 : ∀ args w, (callFunc 49 args).run Try.prog w = .ok (.enter 49 args) w := fun _ _ => by rfl
theorem eg45 : ∀ args w, (callFunc 45 args).run Try.prog w = .ok (.enter 45 args) w := fun _ _ => by rfl
theorem eg33 : ∀ args w, (callFunc 33 args).run Try.prog w = .ok (.enter 33 args) w := fun _ _ => by rfl

def badE (n : Int) (a b x : Int) : Bool := decide (min a b < 0 ∨ n ≤ max a b ∨ a = b ∨ x < -1000000000 ∨ 1000000000 < x)
def badP (n : Int) (a b : Int) : Bool := decide (min a b < 0 ∨ n ≤ max a b)

set_option maxHeartbeats 400000 in
theorem linked1_any (a b x : Int) (B : Nat) (n : Int) (W : World) (hB : W.cell? ⟨B, 0, none⟩ = some (.int .i64 n)) :
    Calls Try.prog 48 #[.agg #[.int .i64 a, .int .i64 b, .int .i64 x], .pointer (some ⟨B, 0, none⟩)] W fun e W' => e = .returned (.bool (badE n a b x)) ∧ Ext W W' := by
  have hBl : B < W.heap.size := World.block_lt_of_cell? W _ hB
  go_enter Try.func48, Try.ntmps48
  go_wp2
  all_goals (go_ret; refine ⟨ret_bool ?_, (Below.refl _ _).alloc (Nat.le_refl _) _⟩; symm; unfold badE; first | (rw [decide_eq_true_iff]; omega) | (rw [Bool.eq_iff_iff]; simp only [decide_eq_true_eq, Bool.or_eq_true, Bool.and_eq_true, beq_iff_eq]; omega))

set_option maxHeartbeats 400000 in
theorem paired1_any (a b : Int) (B : Nat) (n : Int) (W : World) (hB : W.cell? ⟨B, 0, none⟩ = some (.int .i64 n)) :
    Calls Try.prog 49 #[.agg #[.int .i64 a, .int .i64 b], .pointer (some ⟨B, 0, none⟩)] W fun e W' => e = .returned (.bool (badP n a b)) ∧ Ext W W' := by
  have hBl : B < W.heap.size := World.block_lt_of_cell? W _ hB
  go_enter Try.func49, Try.ntmps49
  go_wp2
  all_goals (go_ret; refine ⟨ret_bool ?_, (Below.refl _ _).alloc (Nat.le_refl _) _⟩; symm; unfold badP; first | (rw [decide_eq_true_iff]; omega) | (rw [Bool.eq_iff_iff]; simp only [decide_eq_true_eq, Bool.or_eq_true, Bool.and_eq_true, beq_iff_eq]; omega))

def linkedB (n : Int) (es : List E3) : Bool := decide (es.length ≤ 20000) && !(List.range es.length).any fun j => badE n (eth es j).a (eth es j).b (eth es j).w
def pairedB (n : Int) (ps : List (Int × Int)) : Bool := !(List.range ps.length).any fun j => badP n (pth ps j).1 (pth ps j).2

theorem ext_alloc (w : World) (o : Obj) : Ext w (w.alloc o) := (Below.refl _ _).alloc (Nat.le_refl _) _
theorem cell_new1 (w : World) (v : Value) (t : TypeId) : (w.alloc (.cells #[v] t)).cell? ⟨w.heap.size, 0, none⟩ = some v := by unfold World.cell?; rw [heap_alloc_new]; rfl

set_option maxHeartbeats 400000 in
theorem linked_any (m : Int) (A : Option Addr) (n c : Nat) (es : List E3) (w : World) (h : REdges w A n es) :
    Calls Try.prog 26 #[.int .i64 m, .slice A n c] w fun e w' => e = .returned (.bool (linkedB m es)) ∧ Ext w w' := by
  have hc := containsEdges 48 #[.pointer (some ⟨w.heap.size, 0, none⟩)] eg48 (fun j => badE m (eth es j).a (eth es j).b (eth es j).w) A n c es (w.alloc (.cells #[.int .i64 m] 3)) (h.ext (ext_alloc _ _))
    (fun j hj W hW => linked1_any _ _ _ _ m W (cell_ext hW (cell_new1 _ _ _)))
  have hl := h.len
  unfold linkedB
  rw [hl]
  by_cases h1 : n ≤ 20000
  · have e1 : decide (n ≤ 20000) = true := by simpa using h1
    rw [e1, Bool.true_and]
    clear h hl e1
    go_enter Try.func26, Try.ntmps26
    go_wp2_with (go_at_call 47; refine hc.mono ?_; rintro e w' ⟨rfl, hb'⟩)
    go_ret
    exact ⟨rfl, (ext_alloc _ _).trans (hb'.mono (by simp))⟩
  · have e1 : decide (n ≤ 20000) = false := by simpa using h1
    rw [e1, Bool.false_and]
    clear h hl e1 hc
    go_enter Try.func26, Try.ntmps26
    go_wp2
    go_ret
    exact ⟨rfl, (ext_alloc _ _)⟩

set_option maxHeartbeats 400000 in
theorem paired_any (m : Int) (A : Option Addr) (n c : Nat) (ps : List (Int × Int)) (w : World) (h : RPairs w A n ps) :
    Calls Try.prog 27 #[.int .i64 m, .slice A n c] w fun e w' => e = .returned (.bool (pairedB m ps)) ∧ Ext w w' := by
  have hc := containsPairs 49 #[.pointer (some ⟨w.heap.size, 0, none⟩)] eg49 (fun j => badP m (pth ps j).1 (pth ps j).2) A n c ps (w.alloc (.cells #[.int .i64 m] 3)) (h.ext (ext_alloc _ _))
    (fun j hj W hW => paired1_any _ _ _ m W (cell_ext hW (cell_new1 _ _ _)))
  have hl := h.len
  unfold pairedB
  rw [hl]
  clear h hl
  go_enter Try.func27, Try.ntmps27
  go_wp2_with (go_at_call 44; refine hc.mono ?_; rintro e w' ⟨rfl, hb'⟩)
  go_ret
  exact ⟨rfl, (ext_alloc _ _).trans (hb'.mono (by simp))⟩

set_option maxHeartbeats 400000 in
theorem ordered_any (a b : Int) (w : World) :
    Calls Try.prog 50 #[.int .i64 a, .int .i64 b] w fun e w' => e = .returned (.agg #[.int .i64 (min a b), .int .i64 (max a b)]) ∧ Ext w w' := by
  go_enter Try.func50, Try.ntmps50
  go_wp2
  all_goals (refine bodyPost_ret (v := .agg #[.int .i64 (min a b), .int .i64 (max a b)]) ?_ rfl ⟨rfl, ext_alloc _ _⟩; simp [results, Try.results50, go_sem]; omega)

end Go.Proofs.Ytiapdpbcnbgdmaa

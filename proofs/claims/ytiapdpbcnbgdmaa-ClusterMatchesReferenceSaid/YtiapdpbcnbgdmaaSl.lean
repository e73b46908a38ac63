import Derived.Test.YtiapdpbcnbgdmaaGq
set_option linter.unusedVariables false
set_option linter.unusedSimpArgs false
namespace Go.Proofs.Ytiapdpbcnbgdmaa
open Go.RowKit

def heads (cl : List Int) (hd : Int → Int) : Nat := (cl.filter fun c => decide (hd c = c)).length
/-- What the choice of the next pair has come to: the entries that D names have come. -/
def Sel (Wt : Int × Int → Option Int) (At : Int × Int → Option Bool) (D : Int × Int → Prop) (nx : Int × Int) (most : Int) : Prop :=
  (most = 0 ∧ ∀ p x, D p → Wt p = some x → (At p).getD false = false → x ≤ 0) ∨
  (0 < most ∧ Wt nx = some most ∧ (At nx).getD false = false ∧ ∀ p x, D p → Wt p = some x → (At p).getD false = false → x < most ∨ (x = most ∧ cmpP nx p ≤ 0))
theorem cmpP_anti (p q : Int × Int) (h : ¬ cmpP p q < 0) : cmpP q p ≤ 0 := by
  unfold cmpP cmpI at *
  repeat' split at h
  all_goals (repeat' split)
  all_goals omega
theorem cmpP_trans (p q r : Int × Int) (h : cmpP p q ≤ 0) (k : cmpP q r ≤ 0) : cmpP p r ≤ 0 := by
  have key : ∀ a b : Int × Int, cmpP a b ≤ 0 ↔ (a.1 < b.1 ∨ (a.1 = b.1 ∧ a.2 ≤ b.2)) := fun a b => by
    unfold cmpP cmpI
    constructor
    · intro h
      repeat' split at h
      all_goals omega
    · intro h
      repeat' split
      all_goals omega
  rw [key] at *
  omega
theorem cmpP_self (p : Int × Int) : cmpP p p ≤ 0 := by simp [cmpP, cmpI]
section
variable {Wt : Int × Int → Option Int} {At : Int × Int → Option Bool} {D : Int × Int → Prop} {nx p : Int × Int} {most x : Int}
theorem Sel.skip (S : Sel Wt At D nx most) (hp : Wt p = some x) (h : (At p).getD false = true ∨ (x ≤ most ∧ ¬ (x = most ∧ 0 < x ∧ cmpP p nx < 0))) : Sel Wt At (fun k => k = p ∨ D k) nx most := by
  rcases S with ⟨h1, h2⟩ | ⟨h1, h2, h3, h4⟩
  · refine .inl ⟨h1, fun p' x' hD hx hA => ?_⟩
    rcases hD with rfl | hD
    · rw [hp] at hx; cases hx
      rcases h with h | ⟨h, _⟩
      · rw [h] at hA; cases hA
      · omega
    · exact h2 p' x' hD hx hA
  · refine .inr ⟨h1, h2, h3, fun p' x' hD hx hA => ?_⟩
    rcases hD with rfl | hD
    · rw [hp] at hx; cases hx
      rcases h with h | ⟨h, h'⟩
      · rw [h] at hA; cases hA
      · by_cases e : x = most
        · exact .inr ⟨e, cmpP_anti _ _ (fun hc => h' ⟨e, by omega, hc⟩)⟩
        · exact .inl (by omega)
    · exact h4 p' x' hD hx hA
theorem Sel.take (S : Sel Wt At D nx most) (hp : Wt p = some x) (ha : (At p).getD false = false) (h : most < x ∨ (x = most ∧ 0 < x ∧ cmpP p nx < 0)) : Sel Wt At (fun k => k = p ∨ D k) p x := by
  have hpos : 0 < x := by
    rcases S with ⟨h1, _⟩ | ⟨h1, _⟩ <;> omega
  refine .inr ⟨hpos, hp, ha, fun p' x' hD hx hA => ?_⟩
  rcases hD with rfl | hD
  · rw [hp] at hx; cases hx
    exact .inr ⟨rfl, cmpP_self _⟩
  · rcases S with ⟨h1, h2⟩ | ⟨h1, h2, h3, h4⟩
    · have := h2 p' x' hD hx hA
      exact .inl (by omega)
    · rcases h4 p' x' hD hx hA with h5 | ⟨h5, h6⟩
      · exact .inl (by omega)
      · rcases h with h | ⟨h, _, h7⟩
        · exact .inl (by omega)
        · exact .inr ⟨by omega, cmpP_trans _ _ _ (by omega) h6⟩
end
/-- A store into a pair's box. -/
theorem set_pair {W : World} {b : Nat} {u v : Value} (h : W.heap[b]? = some (.cells #[u, v] 42 (0, 0))) (x y : Value) :
    ((W.setCell ⟨b, 0, none⟩ x).setCell ⟨b, 1, none⟩ y).heap[b]? = some (.cells #[x, y] 42 (0, 0)) ∧ Kept (fun k => k = b) W ((W.setCell ⟨b, 0, none⟩ x).setCell ⟨b, 1, none⟩ y) := by
  refine ⟨?_, rfl, rfl, rfl, by simp, fun k hk hn => ?_⟩
  · have h1 := heap_setCell_same W b 0 #[u, v] 42 x h
    have h2 := heap_setCell_same _ b 1 _ 42 y h1
    simpa using h2
  · rw [Below.heap_setCell _ _ _ _ (by exact hn), Below.heap_setCell _ _ _ _ (by exact hn)]

end Go.Proofs.Ytiapdpbcnbgdmaa

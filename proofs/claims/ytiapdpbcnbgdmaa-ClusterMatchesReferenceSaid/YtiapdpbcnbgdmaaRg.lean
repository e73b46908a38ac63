import Derived.Test.YtiapdpbcnbgdmaaRf
set_option linter.unusedVariables false
set_option linter.unusedSimpArgs false
namespace Go.Proofs.Ytiapdpbcnbgdmaa
open Go.RowKit

/-- **A range over a function whose body never leaves.** The iterator turns blocks that 'it' names; the body those that 'bad' names. -/
theorem wp_rounds {P : Program} {g : Operand} {ps : Array Tmp} {assign body : Code} {Q : Exit → Act → World → Prop} {a : Act} {w : World} {gf : Nat} {lb : Array Value}
    (hg : a.eval g = .func (.func gf) #[] lb) (eg : ∀ args w, (callFunc gf args).run P w = .ok (.enter gf args) w) (enc : Array Value) (hps : enc.size = ps.size)
    {σ : Type} (J : List σ → World → Prop) (X : σ → World → Prop) (it bad : Nat → Prop) (hit : ∀ k, it k → k < w.heap.size) (hbad : ∀ k, bad k → k < w.heap.size) (xs : List σ)
    (hJ : ∀ pre A B, J pre A → Kept (fun k => it k ∨ k = w.heap.size + 1) A B → J pre B)
    (hX : ∀ x A B, X x A → Kept (fun k => k = w.heap.size + 1) A B → X x B)
    (hseq : ∀ (J' : List σ → World → Prop) (W1 : World), (∀ pre A B, J' pre A → Kept it A B → J' pre B) →
      (∀ pre x W, J' pre W → X x W → YieldAt Fence.wide 0 P (w.heap.size + 1) enc W fun e W' => e = .returned (.bool true) ∧ J' (pre ++ [x]) W' ∧ Kept (fun k => bad k ∨ k = w.heap.size + 1) W W') →
      Ext w W1 → w.heap.size + 1 < W1.heap.size → J' [] W1 → Calls P gf (#[.func (.yield (w.heap.size + 1)) #[] #[]] ++ lb) W1 fun e W' => (∃ v, e = .returned v) ∧ J' xs W')
    (a₁ : Act)
    (hassign : ∀ (W : World) (K : Act → World → Prop), K a₁ W → assign.wpIn (Fence.wide.inRound (w.heap.size + 1)) 0 P (Exit.then K (fun _ _ _ => False)) { tmps := (ps.zip enc).foldl (fun t (p, v) => t.setIfInBounds p v) a.tmps, defers := [] } W)
    (hbody : ∀ pre x W, J pre W → X x W → w.heap.size + 1 < W.heap.size → body.wpIn (Fence.wide.inRound (w.heap.size + 1)) 0 P (fun e _ W' => e = .normal ∧ Kept bad W W' ∧ J (pre ++ [x]) W') a₁ W)
    (h0 : ∀ W, Ext w W → W.heap.size = w.heap.size + 1 + 1 → J [] W)
    (hdone : ∀ W, J xs W → W.heap[w.heap.size]? = some (.deferred (some [])) → Q .normal { a with defers := { target := .collected w.heap.size, args := #[] } :: a.defers } W) :
    (Code.rangeFunc g ps assign body).wp P Q a w := by
  refine (wpIn_wide (n := 0)).1 (wpIn_rangeFunc ?_)
  intro fn hfn
  obtain ⟨rec, hrec⟩ : ∃ rec : LoopState → Loop, rec = fun st => { state := st, pending := none, fn, tmps := a.tmps, params := ps, assign, body, defers := w.heap.size } := ⟨_, rfl⟩
  obtain ⟨W1, hW1⟩ : ∃ W1, (w.alloc (.deferred (some []))).alloc (.loop (rec .ready)) = W1 := ⟨_, rfl⟩
  have hL1 : W1.heap[w.heap.size + 1]? = some (.loop (rec .ready)) := by
    rw [← hW1]; have := heap_alloc_new (w.alloc (.deferred (some []))) (.loop (rec .ready)); rwa [World.size_alloc] at this
  have hK1 : W1.heap[w.heap.size]? = some (.deferred (some [])) := by
    rw [← hW1, heap_old _ _ _ (by simp)]; exact heap_alloc_new w _
  have hE1 : Ext w W1 := by rw [← hW1]; exact Ext.trans (ext_alloc _ _) (ext_alloc _ _)
  have hS1 : W1.heap.size = w.heap.size + 1 + 1 := by rw [← hW1]; simp
  refine ⟨w.heap.size + 1, [{ target := .collected w.heap.size, args := #[] }], W1, { target := .fn (.func gf) lb, args := #[.func (.yield (w.heap.size + 1)) #[] #[]] }, W1, gf, #[.func (.yield (w.heap.size + 1)) #[] #[]] ++ lb, W1, ?_, ?_, fun _ _ => trivial, ?_, fun h => absurd h (by simp [Fence.wide]), ?_⟩
  · rw [← hW1, hrec]; exact run_enterLoop_outer _ _ _ _ _
  · simp only [resolve, hg]
    simp [go_sem]
  · simp [invoke, go_sem, eg]
  refine (callsIn_wide).2 ((hseq (fun pre W => J pre W ∧ W.heap[w.heap.size + 1]? = some (.loop (rec .ready)) ∧ W.heap[w.heap.size]? = some (.deferred (some []))) W1 ?_ ?_ hE1 (by omega) ⟨h0 W1 hE1 hS1, hL1, hK1⟩).mono ?_)
  · rintro pre A B ⟨h1, h2, h3⟩ hk
    exact ⟨hJ pre A B h1 (hk.mono (fun k _ h => .inl h)), (hk.block _ (Array.getElem?_eq_some_iff.1 h2).1 (fun h => by have := hit _ h; omega)).trans h2, (hk.block _ (Array.getElem?_eq_some_iff.1 h3).1 (fun h => by have := hit _ h; omega)).trans h3⟩
  · rintro pre x W ⟨h1, h2, h3⟩ hx
    have hlt : w.heap.size + 1 < W.heap.size := (Array.getElem?_eq_some_iff.1 h2).1
    have hy := run_yield (P := P) (args := enc) h2 (by rw [hrec]; exact hps)
    rw [hrec] at hy
    refine ⟨fn, _, assign, body, hy, roundIn_of_wpIn hfn (hassign W _ ?_)⟩
    refine ⟨_, run_beginRound h2 (by rw [hrec]), ?_⟩
    obtain ⟨Wb, hWb⟩ : ∃ Wb, Wb = W.putObj (w.heap.size + 1) (.loop { rec .ready with state := .busy }) := ⟨_, rfl⟩
    rw [← hWb]
    have hkb : Kept (fun k => k = w.heap.size + 1) W Wb := by rw [hWb]; exact Kept.putObj _ hlt rfl
    have hb2 : Wb.heap[w.heap.size + 1]? = some (.loop { rec .ready with state := .busy }) := by rw [hWb]; exact World.putObj_heap_same hlt
    have hb3 : Wb.heap[w.heap.size]? = some (.deferred (some [])) := (hkb.block _ (by omega) (by omega)).trans h3
    refine wpIn_mono (hbody pre x Wb (hJ _ _ _ h1 (hkb.mono fun k _ h => .inr h)) (hX _ _ _ hx hkb) (Nat.lt_of_lt_of_le hlt hkb.size)) ?_
    rintro e a3 W3 ⟨rfl, hk3, hj3⟩
    have hl3 : W3.heap[w.heap.size + 1]? = some (.loop { rec .ready with state := .busy }) := (hk3.block _ (Nat.lt_of_lt_of_le hlt hkb.size) (fun h => by have := hbad _ h; omega)).trans hb2
    have hl3' := (Array.getElem?_eq_some_iff.1 hl3).1
    have hend := run_endRound (P := P) none hl3
    refine ⟨_, _, hend, rfl, ⟨?_, ?_, ?_⟩, ?_⟩
    · exact hJ _ _ _ hj3 (Kept.putObj _ hl3' (.inr rfl))
    · rw [World.putObj_heap_same hl3', hrec]; rfl
    · rw [World.putObj_heap_other (by omega)]
      exact (hk3.block _ (by have := hkb.size; omega) (fun h => by have := hbad _ h; omega)).trans hb3
    · exact ((hkb.mono (fun k _ h => .inr h)).trans (hk3.mono (fun k _ h => .inl h))).trans (Kept.putObj _ hl3' (.inr rfl))
  · rintro e W2 ⟨⟨v, rfl⟩, h1, h2, h3⟩
    have h2' := (Array.getElem?_eq_some_iff.1 h2).1
    refine ⟨none, _, by have := run_endLoop (P := P) h2 (by rw [hrec]; simp); rw [hrec] at this; exact this, ?_⟩
    exact hdone _ (hJ _ _ _ h1 (Kept.putObj _ h2' (.inr rfl))) ((World.putObj_heap_other (by omega)).trans h3)

end Go.Proofs.Ytiapdpbcnbgdmaa

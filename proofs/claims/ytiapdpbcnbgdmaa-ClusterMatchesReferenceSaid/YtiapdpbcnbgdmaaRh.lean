import Derived.Test.YtiapdpbcnbgdmaaMc
import Derived.Sort.LoopGhostIn
set_option linter.unusedVariables false
set_option linter.unusedSimpArgs false
namespace Go.Proofs.Ytiapdpbcnbgdmaa
open Go.RowKit

/-- A range over a function whose body never leaves, whose loop variable may be boxed. -/
theorem wp_rounds2 {P : Program} {g : Operand} {ps : Array Tmp} {assign body : Code} {Q : Exit → Act → World → Prop} {a : Act} {w : World} {gf : Nat} {lb : Array Value}
    (hg : a.eval g = .func (.func gf) #[] lb) (eg : ∀ args w, (callFunc gf args).run P w = .ok (.enter gf args) w) {σ : Type} (enc : σ → Array Value) (hps : ∀ x, (enc x).size = ps.size)
    (J : List σ → World → Prop) (X : List σ → σ → Prop) (Ax : σ → Act → World → Prop) (it bad : Nat → Prop) (hit : ∀ k, it k → k ≠ w.heap.size ∧ k ≠ w.heap.size + 1) (hbad : ∀ k, bad k → k ≠ w.heap.size ∧ k ≠ w.heap.size + 1) (S : List σ → Prop) (sz : Nat)
    (hJ : ∀ pre A B, J pre A → Kept (fun k => it k ∨ k = w.heap.size + 1) A B → J pre B)
    (hAx : ∀ x a A B, Ax x a A → Kept (fun k => k = w.heap.size + 1) A B → Ax x a B)
    (hseq : ∀ (J' : List σ → World → Prop) (W1 : World), (∀ pre A B, J' pre A → Kept it A B → J' pre B) →
      (∀ pre x W, J' pre W → X pre x → sz ≤ W.heap.size → YieldAt Fence.wide 0 P (w.heap.size + 1) (enc x) W fun e W' => e = .returned (.bool true) ∧ J' (pre ++ [x]) W' ∧ Kept (fun k => bad k ∨ k = w.heap.size + 1) W W') →
      Ext w W1 → W1.heap.size = w.heap.size + 1 + 1 → J' [] W1 → Calls P gf (#[.func (.yield (w.heap.size + 1)) #[] #[]] ++ lb) W1 fun e W' => (∃ v, e = .returned v) ∧ ∃ xs, S xs ∧ J' xs W')
    (hassign : ∀ (pre : List σ) (x : σ) (W : World) (K : Act → World → Prop), J pre W → X pre x → w.heap.size + 1 < W.heap.size → sz ≤ W.heap.size → (∀ a' W', Kept bad W W' → J pre W' → Ax x a' W' → K a' W') →
      assign.wpIn (Fence.wide.inRound (w.heap.size + 1)) 0 P (Exit.then K (fun _ _ _ => False)) { tmps := (ps.zip (enc x)).foldl (fun t (p, v) => t.setIfInBounds p v) a.tmps, defers := [] } W)
    (hbody : ∀ pre x a' W, J pre W → X pre x → Ax x a' W → w.heap.size + 1 < W.heap.size → sz ≤ W.heap.size → body.wpIn (Fence.wide.inRound (w.heap.size + 1)) 0 P (fun e _ W' => e = .normal ∧ Kept bad W W' ∧ J (pre ++ [x]) W') a' W)
    (h0 : ∀ W, Ext w W → W.heap.size = w.heap.size + 1 + 1 → J [] W)
    (hdone : ∀ xs W, S xs → J xs W → W.heap[w.heap.size]? = some (.deferred (some [])) → Q .normal { a with defers := { target := .collected w.heap.size, args := #[] } :: a.defers } W) :
    (Code.rangeFunc g ps assign body).wp P Q a w := by
  refine (wpIn_wide (n := 0)).1 (wpIn_rangeFunc ?_)
  intro fn hfn
  obtain ⟨rec, hrec⟩ : ∃ rec : LoopState → Loop, rec = fun st => { state := st, pending := none, fn, tmps := a.tmps, params := ps, assign, body, defers := w.heap.size } := ⟨_, rfl⟩
  obtain ⟨W1, hW1⟩ : ∃ W1, (w.alloc (.deferred (some []))).alloc (.loop (rec .ready)) = W1 := ⟨_, rfl⟩
  have hL1 : W1.heap[w.heap.size + 1]? = some (.loop (rec .ready)) := by
    rw [← hW1]; have := heap_alloc_new (w.alloc (.deferred (some []))) (.loop (rec .ready)); rwa [World.size_alloc] at this
  have hK1 : W1.heap[w.heap.size]? = some (.deferred (some [])) := by
    rw [← hW1, heap_old _ _ _ (by simp)]; exact heap_alloc_new w _
  have hE1 : Ext w W1 := by rw [← hW1]; exact Ext.trans (ext_alloc _ _) (ext_alloc _ _)
  have hS1 : W1.heap.size = w.heap.size + 1 + 1 := by rw [← hW1]; simp
  refine ⟨w.heap.size + 1, [{ target := .collected w.heap.size, args := #[] }], W1, { target := .fn (.func gf) lb, args := #[.func (.yield (w.heap.size + 1)) #[] #[]] }, W1, gf, #[.func (.yield (w.heap.size + 1)) #[] #[]] ++ lb, W1, ?_, ?_, fun _ _ => trivial, ?_, fun h => absurd h (by simp [Fence.wide]), ?_⟩
  · rw [← hW1, hrec]; exact run_enterLoop_outer _ _ _ _ _
  · simp only [resolve, hg]
    simp [go_sem]
  · simp [invoke, go_sem, eg]
  refine (callsIn_wide).2 ((hseq (fun pre W => J pre W ∧ W.heap[w.heap.size + 1]? = some (.loop (rec .ready)) ∧ W.heap[w.heap.size]? = some (.deferred (some []))) W1 ?_ ?_ hE1 hS1 ⟨h0 W1 hE1 hS1, hL1, hK1⟩).mono ?_)
  · rintro pre A B ⟨h1, h2, h3⟩ hk
    exact ⟨hJ pre A B h1 (hk.mono (fun k _ h => .inl h)), (hk.block _ (Array.getElem?_eq_some_iff.1 h2).1 (fun h => (hit _ h).2 rfl)).trans h2, (hk.block _ (Array.getElem?_eq_some_iff.1 h3).1 (fun h => (hit _ h).1 rfl)).trans h3⟩
  · rintro pre x W ⟨h1, h2, h3⟩ hx hsz
    have hlt : w.heap.size + 1 < W.heap.size := (Array.getElem?_eq_some_iff.1 h2).1
    have hy := run_yield (P := P) (args := enc x) h2 (by rw [hrec]; exact hps x)
    rw [hrec] at hy
    refine ⟨fn, _, assign, body, hy, roundIn_of_wpIn hfn (hassign pre x W _ h1 hx hlt hsz ?_)⟩
    intro a' Wa hka h1a hax
    have h2a : Wa.heap[w.heap.size + 1]? = some (.loop (rec .ready)) := (hka.block _ hlt (fun h => (hbad _ h).2 rfl)).trans h2
    have h3a : Wa.heap[w.heap.size]? = some (.deferred (some [])) := (hka.block _ (by omega) (fun h => (hbad _ h).1 rfl)).trans h3
    have hlta : w.heap.size + 1 < Wa.heap.size := (Array.getElem?_eq_some_iff.1 h2a).1
    refine ⟨_, run_beginRound h2a (by rw [hrec]), ?_⟩
    obtain ⟨Wb, hWb⟩ : ∃ Wb, Wb = Wa.putObj (w.heap.size + 1) (.loop { rec .ready with state := .busy }) := ⟨_, rfl⟩
    rw [← hWb]
    have hkb : Kept (fun k => k = w.heap.size + 1) Wa Wb := by rw [hWb]; exact Kept.putObj _ hlta rfl
    have hb2 : Wb.heap[w.heap.size + 1]? = some (.loop { rec .ready with state := .busy }) := by rw [hWb]; exact World.putObj_heap_same hlta
    have hb3 : Wb.heap[w.heap.size]? = some (.deferred (some [])) := (hkb.block _ (by omega) (by omega)).trans h3a
    refine wpIn_mono (hbody pre x a' Wb (hJ _ _ _ h1a (hkb.mono fun k _ h => .inr h)) hx (hAx _ _ _ _ hax hkb) (Nat.lt_of_lt_of_le hlta hkb.size) (Nat.le_trans hsz (Nat.le_trans hka.size hkb.size))) ?_
    rintro e a3 W3 ⟨rfl, hk3, hj3⟩
    have hl3 : W3.heap[w.heap.size + 1]? = some (.loop { rec .ready with state := .busy }) := (hk3.block _ (Nat.lt_of_lt_of_le hlta hkb.size) (fun h => (hbad _ h).2 rfl)).trans hb2
    have hl3' := (Array.getElem?_eq_some_iff.1 hl3).1
    have hend := run_endRound (P := P) none hl3
    refine ⟨_, _, hend, rfl, ⟨?_, ?_, ?_⟩, ?_⟩
    · exact hJ _ _ _ hj3 (Kept.putObj _ hl3' (.inr rfl))
    · rw [World.putObj_heap_same hl3', hrec]; rfl
    · rw [World.putObj_heap_other (by omega)]
      exact (hk3.block _ (by have := hkb.size; omega) (fun h => (hbad _ h).1 rfl)).trans hb3
    · exact ((hka.mono (fun k _ h => .inl h)).trans (hkb.mono (fun k _ h => .inr h))).trans ((hk3.mono (fun k _ h => .inl h)).trans (Kept.putObj _ hl3' (.inr rfl)))
  · rintro e W2 ⟨⟨v, rfl⟩, xs, hS, h1, h2, h3⟩
    have h2' := (Array.getElem?_eq_some_iff.1 h2).1
    refine ⟨none, _, by have := run_endLoop (P := P) h2 (by rw [hrec]; simp); rw [hrec] at this; exact this, ?_⟩
    exact hdone xs _ hS (hJ _ _ _ h1 (Kept.putObj _ h2' (.inr rfl))) ((World.putObj_heap_other (by omega)).trans h3)

end Go.Proofs.Ytiapdpbcnbgdmaa

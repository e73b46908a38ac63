import Derived.Test.YtiapdpbcnbgdmaaKd
set_option linter.unusedVariables false
set_option linter.unusedSimpArgs false
namespace Go.Proofs.Ytiapdpbcnbgdmaa
open Go.RowKit

/-- Between two steps of greedy: its three maps; the evidence's box. -/
structure GrSt (w : World) (v0 : Value) (r1 r2 : Nat) (H : Int → Option Int) (Wt : Int × Int → Option Int) (At : Int × Int → Option Bool) (W : World) : Prop where
  box : W.heap[w.heap.size]? = some (.cells #[v0, .map (some r1), .map (some r2)] 52 (0, 0))
  h : MapFn W (w.heap.size + 1) vvI vvI H
  wt : MapFn W (w.heap.size + 1 + 1) kvP vvI Wt
  at_ : MapFn W (w.heap.size + 1 + 1 + 1) kvP vvB At
  ext : Ext w W
section
variable {w : World} {v0 : Value} {r1 r2 : Nat} {H : Int → Option Int} {Wt : Int × Int → Option Int} {At : Int × Int → Option Bool} {W W' : World}
theorem GrSt.lt (G : GrSt w v0 r1 r2 H Wt At W) : w.heap.size + 1 + 1 + 1 < W.heap.size := G.at_.lt
theorem GrSt.keep (G : GrSt w v0 r1 r2 H Wt At W) {X : Nat → Prop} (K : Kept X W W') (hX : ∀ k, X k → w.heap.size + 1 + 1 + 1 < k) : GrSt w v0 r1 r2 H Wt At W' := by
  have hl := G.lt
  have hk : ∀ k, k ≤ w.heap.size + 1 + 1 + 1 → W'.heap[k]? = W.heap[k]? := fun k h => K.block k (by omega) (fun hx => by have := hX k hx; omega)
  exact ⟨(hk _ (by omega)).trans G.box, G.h.same (hk _ (by omega)), G.wt.same (hk _ (by omega)), G.at_.same (hk _ (by omega)), K.ext G.ext (fun k hx => by have := hX k hx; omega)⟩
theorem GrSt.keepE (G : GrSt w v0 r1 r2 H Wt At W) (h : Ext W W') : GrSt w v0 r1 r2 H Wt At W' := G.keep (X := fun _ => False) (.of_ext h) (fun _ h => h.elim)
theorem GrSt.turnH (G : GrSt w v0 r1 r2 H Wt At W) {H' : Int → Option Int} (hg : W.grownBy W' (some (w.heap.size + 1))) (hm : MapFn W' (w.heap.size + 1) vvI vvI H') : GrSt w v0 r1 r2 H' Wt At W' := by
  have hl := G.lt
  have hk : ∀ k, k ≤ w.heap.size + 1 + 1 + 1 → k ≠ w.heap.size + 1 → W'.heap[k]? = W.heap[k]? := fun k h hn => hg.block k (by omega) (fun e => hn (Option.some.inj e))
  exact ⟨(hk _ (by omega) (by omega)).trans G.box, hm, G.wt.same (hk _ (by omega) (by omega)), G.at_.same (hk _ (by omega) (by omega)), G.ext.grown hg G.ext.size (fun k e => by cases e; omega)⟩
theorem GrSt.turnW (G : GrSt w v0 r1 r2 H Wt At W) {Wt' : Int × Int → Option Int} (hg : W.grownBy W' (some (w.heap.size + 1 + 1))) (hm : MapFn W' (w.heap.size + 1 + 1) kvP vvI Wt') : GrSt w v0 r1 r2 H Wt' At W' := by
  have hl := G.lt
  have hk : ∀ k, k ≤ w.heap.size + 1 + 1 + 1 → k ≠ w.heap.size + 1 + 1 → W'.heap[k]? = W.heap[k]? := fun k h hn => hg.block k (by omega) (fun e => hn (Option.some.inj e))
  exact ⟨(hk _ (by omega) (by omega)).trans G.box, G.h.same (hk _ (by omega) (by omega)), hm, G.at_.same (hk _ (by omega) (by omega)), G.ext.grown hg G.ext.size (fun k e => by cases e; omega)⟩
theorem GrSt.turnA (G : GrSt w v0 r1 r2 H Wt At W) {At' : Int × Int → Option Bool} (hg : W.grownBy W' (some (w.heap.size + 1 + 1 + 1))) (hm : MapFn W' (w.heap.size + 1 + 1 + 1) kvP vvB At') : GrSt w v0 r1 r2 H Wt At' W' := by
  have hl := G.lt
  have hk : ∀ k, k ≤ w.heap.size + 1 + 1 + 1 → k ≠ w.heap.size + 1 + 1 + 1 → W'.heap[k]? = W.heap[k]? := fun k h hn => hg.block k (by omega) (fun e => hn (Option.some.inj e))
  exact ⟨(hk _ (by omega) (by omega)).trans G.box, G.h.same (hk _ (by omega) (by omega)), G.wt.same (hk _ (by omega) (by omega)), hm, G.ext.grown hg G.ext.size (fun k e => by cases e; omega)⟩
theorem GrSt.congr (G : GrSt w v0 r1 r2 H Wt At W) {H' Wt' At'} (e1 : ∀ k, H k = H' k) (e2 : ∀ k, Wt k = Wt' k) (e3 : ∀ k, At k = At' k) : GrSt w v0 r1 r2 H' Wt' At' W := ⟨G.box, G.h.congr e1, G.wt.congr e2, G.at_.congr e3, G.ext⟩
end
theorem GrSt.start (w : World) (v0 : Value) (r1 r2 : Nat) : GrSt w v0 r1 r2 (fun _ => none) (fun _ => none) (fun _ => none) ((((w.alloc (.cells #[v0, .map (some r1), .map (some r2)] 52)).alloc (.map #[] 0)).alloc (.map #[] 0)).alloc (.map #[] 0)) := by
  have a1 := made_fn (w.alloc (.cells #[v0, .map (some r1), .map (some r2)] 52)) vvI vvI
  have a2 := made_fn ((w.alloc (.cells #[v0, .map (some r1), .map (some r2)] 52)).alloc (.map #[] 0)) kvP vvI
  have a3 := made_fn (((w.alloc (.cells #[v0, .map (some r1), .map (some r2)] 52)).alloc (.map #[] 0)).alloc (.map #[] 0)) kvP vvB
  simp only [World.size_alloc] at a1 a2 a3
  refine ⟨?_, a1.same ?_, a2.same ?_, a3, Ext.trans (Ext.trans (Ext.trans (ext_alloc _ _) (ext_alloc _ _)) (ext_alloc _ _)) (ext_alloc _ _)⟩
  · rw [heap_old _ _ _ (by simp; omega), heap_old _ _ _ (by simp; omega), heap_old _ _ _ (by simp)]; exact heap_alloc_new w _
  · rw [heap_old _ _ _ (by simp), heap_old _ _ _ (by simp)]
  · rw [heap_old _ _ _ (by simp)]
theorem zero49 (w : World) : (zeroValue 3).run Try.prog w = .ok (.int .i64 0) w := zero3 w

theorem filter_modify_length {α : Type} (p : α → Bool) (f : α → α) (hp : ∀ e, p (f e) = p e) : ∀ (l : List α) (i : Nat), ((l.modify i f).filter p).length = (l.filter p).length
  | [], i => by simp
  | e :: l, 0 => by
    simp only [List.modify_zero_cons, List.filter_cons, hp]
    split <;> simp
  | e :: l, i + 1 => by
    have := filter_modify_length p f hp l i
    simp only [List.modify_succ_cons, List.filter_cons]
    split <;> simp [this]
/-- An iterator goes on over a map whose entry at a key that has come is turned. -/
theorem IterSt.update {κ ν : Type} [DecidableEq κ] {kv : κ → Value} {vv : ν → Value} {P : Program} {kt et T : TypeId} {okk : κ → Prop} {w : World} {it m : Nat} {M : κ → Option ν} {D : κ → Prop} {c : Nat} (I : IterSt w it m kv vv M D c) (K : KeyT P kt kv okk) (hT : P.underlying T = some (.map kt et)) (k : κ) (v : ν) (hk : M k ≠ none) :
    ∃ w', (Instr.mapUpdate T (.map (some m)) (kv k) (vv v)).run P w = .ok () w' ∧ IterSt w' it m kv vv (fun k' => if k' = k then some v else M k') D c ∧ w.grownBy w' (some m) := by
  obtain ⟨l, clock, seen, hm, hg, hi, hd, hc⟩ := I
  have hne : it ≠ m := fun e => by
    have := hm.heap
    rw [← e, hi] at this
    simp [mapObj] at this
  have hu := run_update K hT hm k v
  refine ⟨_, hu, ?_, grown_setBlock _ _ _⟩
  obtain ⟨x, hx⟩ : ∃ x, findL k l 0 = some x := by
    cases hf : findL k l 0 with
    | some x => exact ⟨x, rfl⟩
    | none => exact absurd (by rw [← hg]; unfold getL; rw [hf]; rfl) hk
  obtain ⟨j, e, h1, h2, h3, h4⟩ := findL_some hx
  have hcl : clockL l k clock = clock := by unfold clockL; rw [hx]
  have hpl : putL l k v clock = l.modify x.1 fun e => (e.1, v, e.2.2) := by unfold putL; rw [hx]
  have htd := hm.tidy.put k v
  rw [hcl] at htd ⊢
  refine ⟨putL l k v clock, clock, seen, ⟨heap_setBlock_self hm.heap, htd⟩, fun k' => by rw [getL_put, hg], (heap_setBlock_ne (Ne.symm hne)).trans hi, ?_, ?_⟩
  · intro e' he'
    rw [hpl] at he'
    obtain ⟨i, hi'⟩ := List.mem_iff_getElem?.1 he'
    rw [List.getElem?_modify] at hi'
    cases hli : l[i]? with
    | none => rw [hli] at hi'; simp at hi'
    | some e0 =>
      rw [hli] at hi'
      have := hd e0 (List.mem_of_getElem? hli)
      by_cases hxi : x.1 = i
      · simp [hxi] at hi'; rw [← hi']; exact this
      · simp [hxi] at hi'; rw [← hi']; exact this
  · rw [hpl, ← hc]
    exact filter_modify_length (fun e : κ × ν × Nat => !seen.contains e.2.2) (fun e => (e.1, v, e.2.2)) (fun e => rfl) l x.1

end Go.Proofs.Ytiapdpbcnbgdmaa

import Derived.Test.YtiapdpbcnbgdmaaCl
import Derived.RangeFuncNested
import Derived.RangeFuncBound
import Derived.RangeFuncCalls
import Derived.RangeFuncLeaves
import Derived.Shelf.Abstract
import Derived.OwnWalkIn
import Derived.TacticsInMore
import Derived.LoopNIn
import Derived.LoopIn
set_option linter.unusedVariables false
set_option linter.unusedSimpArgs false
namespace Go.Proofs.Ytiapdpbcnbgdmaa
open Go.RowKit

/-- All that lay lies as it lay, but for the blocks that X names. -/
structure Kept (X : Nat → Prop) (w w' : World) : Prop where
  os : w'.os = w.os
  tape : w'.tape = w.tape
  output : w'.output = w.output
  size : w.heap.size ≤ w'.heap.size
  block : ∀ k, k < w.heap.size → ¬ X k → w'.heap[k]? = w.heap[k]?
theorem Kept.refl (X : Nat → Prop) (w : World) : Kept X w w := ⟨rfl, rfl, rfl, Nat.le_refl _, fun _ _ _ => rfl⟩
theorem Kept.trans {X : Nat → Prop} {a b c : World} (h : Kept X a b) (k : Kept X b c) : Kept X a c :=
  ⟨k.os.trans h.os, k.tape.trans h.tape, k.output.trans h.output, Nat.le_trans h.size k.size, fun i hi hx => (k.block i (Nat.lt_of_lt_of_le hi h.size) hx).trans (h.block i hi hx)⟩
theorem Kept.mono {X Y : Nat → Prop} {a b : World} (h : Kept X a b) (hXY : ∀ k, k < a.heap.size → X k → Y k) : Kept Y a b := ⟨h.os, h.tape, h.output, h.size, fun k hk hy => h.block k hk (fun hx => hy (hXY k hk hx))⟩
theorem Kept.of_ext {X : Nat → Prop} {a b : World} (h : Ext a b) : Kept X a b := ⟨h.os, h.tape, h.output, h.size, fun k hk _ => h.block k hk⟩
theorem Kept.of_grown {X : Nat → Prop} {a b : World} {r : Nat} (h : a.grownBy b (some r)) (hr : X r) : Kept X a b := ⟨h.os, h.tape, h.output, h.size, fun k hk hx => h.block k hk (fun e => hx (by cases e; exact hr))⟩
theorem Kept.grown {a b : World} {r : Nat} (h : Kept (fun k => k = r) a b) : a.grownBy b (some r) := ⟨h.os, h.tape, h.output, h.size, fun k hk hx => h.block k hk (fun e => hx (by rw [e]))⟩
theorem Kept.ext {X : Nat → Prop} {w a b : World} (hw : Ext w a) (h : Kept X a b) (hX : ∀ k, X k → w.heap.size ≤ k) : Ext w b :=
  ⟨h.os.trans hw.os, h.tape.trans hw.tape, h.output.trans hw.output, Nat.le_trans hw.size h.size, fun k hk => (h.block k (Nat.lt_of_lt_of_le hk hw.size) (fun hx => by have := hX k hx; omega)).trans (hw.block k hk)⟩
theorem Kept.cell {X : Nat → Prop} {a b : World} (h : Kept X a b) {p : Addr} {v : Value} (hc : a.cell? p = some v) (hx : ¬ X p.block) : b.cell? p = some v := by
  have hb := h.block p.block (World.block_lt_of_cell? _ _ hc) hx
  unfold World.cell? at hc ⊢
  rw [hb]
  exact hc
theorem Kept.putObj {X : Nat → Prop} {a : World} {l : Nat} (o : Obj) (hl : l < a.heap.size) (hx : X l) : Kept X a (a.putObj l o) :=
  .of_grown (grownBy_putObj' a l o) hx

section
variable {P : Program} {md : Region.Mode} {ops : Array Oper} {Q : Exit → Act → World → Prop}
/-- One operation, in a round. -/
theorem oper_in {l n : Nat} {o : Oper} {a : Act} {w : World} {K K' : Act → World → Prop} (hd : ∀ c, o.op ≠ .defer c) (hK : ∀ a w, K a w → K' a w) (h : o.wp P a w K Q) : o.wpIn (Fence.wide.inRound l) n P a w K' Q := by
  refine ⟨fun _ _ => trivial, ?_⟩
  rw [Oper.semAt_eq _ _ _ hd]
  unfold Oper.wp at h
  revert h
  generalize (execOp a.eval o).run P w = r
  intro h
  cases r with
  | ok x w' =>
    cases x with
    | value v => exact hK _ _ h
    | skip => exact hK _ _ h
    | defer d => exact hK _ _ h
    | enter f args =>
      refine ⟨fun h => absurd h (by simp [Fence.wide]), ?_⟩
      have h : Calls P f args w' _ := h
      refine CallsIn.inRound l ((callsIn_wide (n := n - 1)).2 (h.mono ?_))
      intro e w'' he
      cases e with
      | returned v => exact hK _ _ he
      | panicked c => exact he
      | outgrown => exact he
    | row row args =>
      refine ⟨fun h => absurd h (by simp [Fence.wide]), fun c cs _ => ?_⟩
      obtain ⟨v, w'', hv, hs⟩ := (show Rows P row args w' _ from h) c cs
      exact ⟨v, w'', hK _ _ hv, stepsIn_wide.2 hs⟩
    | _ => exact h.elim
  | halt x w' =>
    cases x with
    | panic v => exact h
    | _ => exact h.elim
end
section
variable {P : Program} {md : Region.Mode} {ops : Array Oper} {Q : Exit → Act → World → Prop}
def noDefer (ops : List Oper) : Bool := ops.all fun o => match o.op with | .defer _ => false | _ => true
theorem noDefer_spec {l : List Oper} (h : noDefer l = true) : ∀ o ∈ l, ∀ c, o.op ≠ .defer c := by
  intro o ho c hc
  unfold noDefer at h
  rw [List.all_eq_true] at h
  have := h o ho
  rw [hc] at this
  cases this
theorem wpAny_in {r n : Nat} (hd : ∀ (i : Nat) (o : Oper), ops[i]? = some o → ∀ c, o.op ≠ .defer c) (hQ : ¬ LetsOut Q) : ∀ (fuel : Nat) (listed : Array Bool) (a : Act) (w : World), wpAny P md ops Q fuel listed a w → wpAnyIn (Fence.wide.inRound r) n P md ops Q fuel listed a w := by
  intro fuel
  induction fuel with
  | zero => intro listed a w h; exact h
  | succ fuel ih =>
    intro listed a w h
    refine ⟨h.1, fun i hi => ?_⟩
    have h2 := h.2 i hi
    unfold wpOp at h2
    unfold wpOpIn
    cases ho : ops[i]? with
    | none => rw [ho] at h2; exact ih _ _ _ h2
    | some o =>
      rw [ho] at h2
      simp only at h2 ⊢
      split
      · rename_i hw
        rw [if_pos hw] at h2
        rcases h2 with h2 | ⟨_, h2⟩
        · exact oper_in (hd i o ho) (fun a w h => ih _ _ _ h) h2
        · exact absurd h2 hQ
      · rename_i hw
        rw [if_neg hw] at h2
        exact ⟨fun _ _ => trivial, ih _ _ _ h2⟩
theorem wpList_in {r n : Nat} (hQ : ¬ LetsOut Q) : ∀ (l : List Oper) (a : Act) (w : World), (∀ o ∈ l, ∀ c, o.op ≠ .defer c) → wpList P ops Q l a w → wpListIn (Fence.wide.inRound r) n P ops Q l a w := by
  intro l
  induction l with
  | nil => intro a w _ h; exact h
  | cons o rest ih =>
    intro a w hd h
    have hd' : ∀ o ∈ rest, ∀ c, o.op ≠ .defer c := fun o ho => hd o (List.mem_cons_of_mem _ ho)
    unfold wpList at h
    unfold wpListIn
    split
    · rename_i hw
      rw [if_pos hw] at h
      rcases h with h | ⟨_, h⟩
      · exact oper_in (hd o (List.mem_cons_self ..)) (fun a w h => ih _ _ hd' h) h
      · exact absurd h hQ
    · rename_i hw
      rw [if_neg hw] at h
      exact ⟨fun _ _ => trivial, ih _ _ hd' h⟩
/-- **In a round, a region is walked as everywhere.** -/
theorem region_in {r n id : Nat} {a : Act} {w : World} {l : List Oper} (hQ : ¬ LetsOut Q) (hd : noDefer l = true) (h : wpList P l.toArray Q l a w) : (Code.region id l.toArray false).wpIn (Fence.wide.inRound r) n P Q a w :=
  wpIn_region_lit (wpList_in hQ _ _ _ (noDefer_spec hd) h)
theorem flow_in {r nn id : Nat} {a : Act} {w : World} {l : List Oper} (n : Nat) (ms : List Nat) (C : Nat → World → Prop) (hQ : ¬ LetsOut Q) (hd : noDefer l = true) (hm : P.follows .mixedOrders = true) (hB : (flowB l.toArray n && marksB l.toArray n ms) = true) (hC : C 0 w.drew)
    (h : wpFlow P l.toArray C ms (fun a' => ∀ w', C ms.length w' → wpList P l.toArray Q (l.drop n) a' w') 0 (l.take n) a) : (Code.region id l.toArray true).wpIn (Fence.wide.inRound r) nn P Q a w := by
  rw [Bool.and_eq_true] at hB
  have B := flowB_spec hB.1
  have M := marksB_spec hB.2
  have hle : n ≤ l.length := by simpa using B.le
  obtain ⟨A, vs, E, hQ'⟩ := ends_of B (l.take n) 0 a (by simp; omega) (fun j hj => by
    have hj' : j < n := by simp at hj; omega
    simp [hj']) h
  have hd' : ∀ (i : Nat) (o : Oper), l.toArray[i]? = some o → ∀ c, o.op ≠ .defer c := fun i o ho => noDefer_spec hd o (by
    have : l[i]? = some o := by simpa using ho
    exact List.mem_of_getElem? this)
  refine wpIn_region_any hm (wpAny_in hd' hQ _ _ _ _ (wpAny_of_flow B M E (by simpa using hQ') _ _ _ _ (by simp) ?_ (.inl ⟨?_, rfl, rfl, fun t _ ht => ?_, fun t => ⟨fun ⟨i, hi, hl, _⟩ => ?_, fun _ => rfl⟩⟩)))
  · unfold unl
    exact Nat.le_trans (List.length_filter_le _ _) (by simp)
  · refine ⟨0, Nat.zero_le _, fun j i hi => ?_, hC⟩
    have : i < l.length := by have := M.lt j i hi; omega
    simp [this]
  · have : t < l.length := by simpa using ht
    simp [this]
  · have : i < l.length := by omega
    simp [this] at hl
theorem wpFlow_mono {C : Nat → World → Prop} {ms : List Nat} {R R' : Act → Prop} (hR : ∀ a, R a → R' a) : ∀ (l : List Oper) (k : Nat) (a : Act), wpFlow P ops C ms R k l a → wpFlow P ops C ms R' k l a
  | [], _, _, h => hR _ h
  | _ :: rest, k, _, ⟨v, h1, h2⟩ => ⟨v, h1, wpFlow_mono hR rest (k + 1) _ h2⟩
/-- A region without a tail, whatever its end. -/
theorem flow_in0 {r nn id : Nat} {a : Act} {w : World} {l : List Oper} (ms : List Nat) (C : Nat → World → Prop) (hd : noDefer l = true) (hm : P.follows .mixedOrders = true) (hB : (flowB l.toArray l.length && marksB l.toArray l.length ms) = true) (hC : C 0 w.drew)
    (h : wpFlow P l.toArray C ms (fun a' => ∀ w', C ms.length w' → Q .normal a' w') 0 l a) : (Code.region id l.toArray true).wpIn (Fence.wide.inRound r) nn P Q a w := by
  refine wpIn_mono (Q := fun e a w => e ≠ .outgrown ∧ Q e a w) ?_ (fun e a w h => h.2)
  refine flow_in l.length ms C (by rintro ⟨a, w, h, _⟩; exact h rfl) hd hm hB hC ?_
  rw [List.take_length, List.drop_length]
  exact wpFlow_mono (fun a h w' hw' => ⟨by simp, h w' hw'⟩) _ _ _ h
/-- One whose tail is one operation. -/
theorem flow_in1 {r nn id : Nat} {a : Act} {w : World} {l : List Oper} {o : Oper} (n : Nat) (ms : List Nat) (C : Nat → World → Prop) (hd : noDefer l = true) (hm : P.follows .mixedOrders = true) (hB : (flowB l.toArray n && marksB l.toArray n ms) = true) (hC : C 0 w.drew) (ho : l.drop n = [o]) (hg : o.guard = none)
    (h : wpFlow P l.toArray C ms (fun a' => ∀ w', C ms.length w' → ∃ v, (execOp a'.eval o).run P w' = .ok (.value v) w' ∧ Q .normal (a'.put o.dst v) w') 0 (l.take n) a) : (Code.region id l.toArray true).wpIn (Fence.wide.inRound r) nn P Q a w := by
  refine wpIn_mono (Q := fun e a w => e ≠ .outgrown ∧ Q e a w) ?_ (fun e a w h => h.2)
  refine flow_in n ms C (by rintro ⟨a, w, h, _⟩; exact h rfl) hd hm hB hC ?_
  rw [ho]
  exact wpFlow_mono (fun a h w' hw' => by
    obtain ⟨v, h1, h2⟩ := h w' hw'
    exact wpList_val v hg h1 ⟨by simp, h2⟩) _ _ _ h
end

end Go.Proofs.Ytiapdpbcnbgdmaa

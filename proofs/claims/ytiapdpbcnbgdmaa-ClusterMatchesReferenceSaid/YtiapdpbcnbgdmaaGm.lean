import Derived.Test.YtiapdpbcnbgdmaaF
import Derived.Test.YtiapdpbcnbgdmaaFlow
import Derived.Test.YtiapdpbcnbgdmaaI
set_option linter.unusedVariables false
set_option linter.unusedSimpArgs false
namespace Go.Proofs.Ytiapdpbcnbgdmaa
open Go.RowKit

abbrev kvP : Int × Int → Value := fun k => .agg #[.int .i64 k.1, .int .i64 k.2]
abbrev vvI : Int → Value := fun x => .int .i64 x
abbrev vvB : Bool → Value := fun x => .bool x
theorem keyP : KeyT Try.prog 42 kvP (fun _ => True) := keyT_pair Try.underlying42 Try.underlying3 (fun _ => by kernel_rfl) (fun _ => by kernel_rfl)
theorem keyI : KeyT Try.prog 3 vvI (fun _ => True) := keyT_int Try.underlying3
theorem MapFn.congr {κ ν : Type} [DecidableEq κ] {w : World} {r : Nat} {kv : κ → Value} {vv : ν → Value} {M M' : κ → Option ν} (h : MapFn w r kv vv M) (e : ∀ k, M k = M' k) : MapFn w r kv vv M' :=
  let ⟨l, c, hm, hg⟩ := h; ⟨l, c, hm, fun k => (hg k).trans (e k)⟩
theorem zero3 (w : World) : (zeroValue 3).run Try.prog w = .ok (.int .i64 0) w := by kernel_rfl
theorem zero4 (w : World) : (zeroValue 4).run Try.prog w = .ok (.bool false) w := by kernel_rfl

/-- The worlds in 'm[k] += x': the map in block r alone has turned: it is as it was, or the key has been laid in it. -/
def GCls (W0 : World) (r : Nat) (l : Ents (Int × Int) Int) (cl : Nat) (key : Int × Int) (b : Bool) (W : World) : Prop :=
  W0.grownBy W (some r) ∧ W.heap[r]? = some (mapObj kvP vvI (if b then entL l key 0 cl else l) (if b then clockL l key cl else cl))
section
variable {W0 : World} {r : Nat} {l : Ents (Int × Int) Int} {cl : Nat} {key : Int × Int} {b : Bool} {W : World}
theorem GCls.start (h : W0.heap[r]? = some (mapObj kvP vvI l cl)) : GCls W0 r l cl key false W0.drew :=
  ⟨⟨rfl, rfl, rfl, Nat.le_refl _, fun _ _ _ => rfl⟩, h⟩
theorem GCls.cell (h : GCls W0 r l cl key b W) {p : Addr} {v : Value} (hc : W0.cell? p = some v) (hne : p.block ≠ r) : W.cell? p = some v :=
  h.1.cell hc (fun e => hne (Option.some.inj e))
theorem GCls.ext (h : GCls W0 r l cl key b W) {W' : World} (he : Ext W W') : GCls W0 r l cl key b W' := by
  have hr := (Array.getElem?_eq_some_iff.1 h.2).1
  exact ⟨⟨he.os.trans h.1.os, he.tape.trans h.1.tape, he.output.trans h.1.output, Nat.le_trans h.1.size he.size, fun k hk hn => (he.block k (Nat.lt_of_lt_of_le hk h.1.size)).trans (h.1.block k hk hn)⟩, (he.block r hr).trans h.2⟩
theorem getL_entL (l : Ents (Int × Int) Int) (key : Int × Int) (cl : Nat) : (getL (entL l key 0 cl) key).getD 0 = (getL l key).getD 0 := by
  unfold entL
  cases hf : findL key l 0 with
  | some x => rfl
  | none =>
    have : getL l key = none := by unfold getL; rw [hf]; rfl
    simp only
    rw [getL_append, this]
    simp
theorem GCls.lookup (ht : Tidy l cl) {T : TypeId} (hT : Try.prog.underlying T = some (.map 42 3)) (h : GCls W0 r l cl key b W) :
    (Instr.lookup T (.map (some r)) (kvP key) false).run Try.prog W = .ok (.int .i64 ((getL l key).getD 0)) W := by
  cases b with
  | false =>
    have h2 : W.heap[r]? = some (mapObj kvP vvI l cl) := h.2
    rw [run_lookup keyP hT ⟨h2, ht⟩ key zero3 false]
    cases getL l key <;> rfl
  | true =>
    have h2 : W.heap[r]? = some (mapObj kvP vvI (entL l key 0 cl) (clockL l key cl)) := h.2
    rw [run_lookup keyP hT ⟨h2, entL_tidy ht key 0⟩ key zero3 false, ← getL_entL l key cl]
    cases getL (entL l key 0 cl) key <;> rfl
theorem GCls.entry (ht : Tidy l cl) {T : TypeId} (hT : Try.prog.underlying T = some (.map 42 3)) (h : GCls W0 r l cl key false W) :
    ∃ W', (Instr.mapEntry T (.map (some r)) (kvP key)).run Try.prog W = .ok (.tuple #[.int .i64 ((getL l key).getD 0), goInt (stampL l key cl)]) W' ∧ GCls W0 r l cl key true W' := by
  have h2 : W.heap[r]? = some (mapObj kvP vvI l cl) := h.2
  have hrun := run_entry (vv := vvI) keyP hT ⟨h2, ht⟩ key (z := 0) zero3
  refine ⟨_, hrun.trans ?_, World.grownBy.trans h.1 (grown_setBlock W r _), heap_setBlock_self h2⟩
  congr 2
  cases getL l key <;> rfl
theorem GCls.store (ht : Tidy l cl) {T : TypeId} (h : GCls W0 r l cl key true W) (v : Int) :
    ∃ W', (Instr.entryStore T (.map (some r)) (goInt (stampL l key cl)) (.int .i64 v)).run Try.prog W = .ok () W' ∧ MapFn W' r kvP vvI (fun k' => if k' = key then some v else getL l k') ∧ W0.grownBy W' (some r) := by
  have h2 : W.heap[r]? = some (mapObj kvP vvI (entL l key 0 cl) (clockL l key cl)) := h.2
  refine ⟨_, run_entryStore (vv := vvI) key v 0 ht h2, ⟨_, _, ⟨heap_setBlock_self h2, ht.put key v⟩, fun k' => getL_put _ _ _ _ _⟩, ?_⟩
  exact World.grownBy.trans h.1 (grown_setBlock W r _)
end

end Go.Proofs.Ytiapdpbcnbgdmaa

import Derived.Test.YtiapdpbcnbgdmaaSl
set_option linter.unusedVariables false
set_option linter.unusedSimpArgs false
namespace Go.Proofs.Ytiapdpbcnbgdmaa
open Go.RowKit

open Go.ChangeMaps
theorem clear_fn {κ ν : Type} [DecidableEq κ] {P : Program} {kv : κ → Value} {vv : ν → Value} {T kt et ty : TypeId} {w : World} {r : Nat} {M : κ → Option ν} (hT : P.underlying T = some (.map kt et)) (h : MapFn w r kv vv M) :
    ∃ w', (Builtin.clear_ #[T] ty #[.map (some r)]).run P w = .ok (.tuple #[]) w' ∧ MapFn w' r kv vv (fun _ => none) ∧ w.grownBy w' (some r) := by
  obtain ⟨l, c, hm, hg⟩ := h
  have hh := hm.heap
  unfold mapObj at hh
  refine ⟨setBlock w r (.map #[] c), ?_, ⟨[], c, ⟨?_, ?_⟩, fun k => rfl⟩, grown_setBlock _ _ _⟩
  · have hset : ∀ o, (setObj r o).run P w = .ok () (setBlock w r o) := fun o => by simp [setObj, Sem.run, hh, setBlock]
    simp [Builtin.clear_, getObj, Sem.run_bind, run_underlying hT, Result.andThen_ok, Sem.run, hh, hset]
  · exact heap_setBlock_self hm.heap
  · exact ⟨List.nodup_nil, List.nodup_nil, fun e he => by cases he⟩

end Go.Proofs.Ytiapdpbcnbgdmaa

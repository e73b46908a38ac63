import Derived.Test.YtiapdpbcnbgdmaaRn
import Derived.Shelf.SlMaps.Clone
set_option linter.unusedVariables false
set_option linter.unusedSimpArgs false
namespace Go.Proofs.Ytiapdpbcnbgdmaa
open Go.RowKit

set_option maxHeartbeats 1000000 in
theorem mapsClone_any {w : World} {r : Nat} {es : Array MapEntry} {clock : Nat} (hb : w.heap[r]? = some (.map es clock)) :
    Calls Try.prog 56 #[.map (some r)] w fun e w' => e = .returned (.map (some w.heap.size)) ∧ w' = w.alloc (.map es clock) := by
  have hq := fun w => run_eql_map_nil_sl (P := Try.prog) w 49 _ _ (some r) Try.underlying49
  have hex : (callFunc 67 #[.iface 49 (.map (some r))]).run Try.prog w = .ok (.value (.iface 49 (.map (some w.heap.size)))) (w.alloc (.map es clock)) := by
    rw [run_callFunc_extern Try.func67 (by kernel_rfl) (by kernel_rfl) (by kernel_rfl) (e := Extern.MapsClone.clone) (by kernel_rfl), run_maps_clone_sl w 49 hb]
    rfl
  have hta := run_typeAssert_map_sl (P := Try.prog) (w.alloc (.map es clock)) 49 20 _ _ (.map (some w.heap.size)) Try.underlying49
  go_enter Try.func56, Try.ntmps56
  go_wp2
  go_ret
  exact ⟨rfl, rfl⟩

end Go.Proofs.Ytiapdpbcnbgdmaa

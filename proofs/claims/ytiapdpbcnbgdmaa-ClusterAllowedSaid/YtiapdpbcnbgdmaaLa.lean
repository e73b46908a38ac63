import Derived.Test.YtiapdpbcnbgdmaaPm
import Derived.Test.YtiapdpbcnbgdmaaHd
set_option linter.unusedVariables false
set_option linter.unusedSimpArgs false
namespace Go.Proofs.Ytiapdpbcnbgdmaa
open Go.RowKit

set_option maxHeartbeats 4000000 in
theorem lawAllowed_any (A : Option Addr) (n c : Nat) (es : List E3) (A1 : Option Addr) (m c1 : Nat) (same : List Int) (A2 : Option Addr) (q c2 : Nat) (ps : List (Int × Int)) (w : World)
    (h : REdges w A n es) (h1 : RInts w A1 m same) (h2 : RPairs w A2 q ps) :
    Calls Try.prog 4 #[.slice A n c, .slice A1 m c1, .slice A2 q c2] w fun e w' => e = .returned (.bool true) ∧ Ext w w' := by
  have hf := fun W => few_any A n c A1 m c1 A2 q c2 30 W h.big h1.big h2.big
  have hh := head_any
  by_cases hfew : (m : Int) ≤ 30 ∧ n ≤ 80 ∧ q ≤ 40
  · simp only [decide_eq_true hfew] at hf
    obtain ⟨f1, f2, f3⟩ := hfew
    obtain rfl := h.len
    obtain rfl := h1.len
    obtain rfl := h2.len
    have hc := fun W (hW : Ext w W) => cluster_any A es.length c es A1 same.length c1 same A2 ps.length c2 ps W (h.ext hW) (h1.ext hW) (h2.ext hW) (by omega) (by omega)
    cases hg : goodB es same ps with
    | false =>
      simp only [hg, Bool.false_eq_true, if_false] at hc
      go_enter Try.func4, Try.ntmps4
      go_wp2_with (first
        | (go_at_call 10; refine (hh _).mono ?_; rintro e w1 ⟨rfl, hx1⟩)
        | (go_at_call 11; refine (hf _).mono ?_; rintro e w2 ⟨rfl, rfl⟩)
        | (go_at_call 12; refine (hc _ hx1).mono ?_; rintro e w3 ⟨v, k, rfl, hx2, rfl, rfl⟩))
      go_ret
      exact ⟨rfl, Ext.trans hx1 hx2⟩
    | true =>
      simp only [hg, if_true] at hc
      go_enter Try.func4, Try.ntmps4
      go_wp2_with (first
        | (go_at_call 10; refine (hh _).mono ?_; rintro e w1 ⟨rfl, hx1⟩)
        | (go_at_call 11; refine (hf _).mono ?_; rintro e w2 ⟨rfl, rfl⟩)
        | (go_at_call 12
           refine (hc _ hx1).mono ?_
           rintro e w3 ⟨v, k, rfl, hx2, rfl, ent, hcp, hrow⟩
           obtain ⟨p1, p2⟩ := cluster_allowed hg hcp
           have hel : ent.length = same.length := by have := hrow.1; simpa using this
           have hx3 := Ext.trans hx1 hx2
           have hrow' : w3.ownsRow w1.heap.size 3 1 v ent.length (ints ent) := by rw [hel]; exact hrow
           obtain ⟨A4, c4, hv4, hr4⟩ := own_reads hrow' (by omega)
           rw [hel] at hv4 hr4
           subst hv4
           have ha := allowed_any A1 same.length c1 same A2 ps.length c2 ps A4 same.length c4 ent w3 (h1.ext hx3) (h2.ext hx3) hr4
           rw [p1] at ha
           clear hel hrow hrow')
        | (go_at_call 17
           refine ha.mono ?_
           clear ha
           rintro e w4 ⟨rfl, hx4⟩
           have hx5 := Ext.trans hx3 hx4
           have hk1 := cost_any A es.length c es A4 same.length c4 ent w4 (h.ext hx5) (hr4.ext hx4))
        | (go_at_call 15
           refine hk1.mono ?_
           clear hk1
           rintro e w5 ⟨rfl, hx6⟩
           have hx7 := Ext.trans hx5 hx6
           have hk2 := cost_any A es.length c es A1 same.length c1 same w5 (h.ext hx7) (h1.ext hx7))
        | (go_at_call 15
           refine hk2.mono ?_
           rintro e w6 ⟨rfl, hx8⟩))
      go_ret
      exact ⟨rfl, Ext.trans hx7 hx8⟩
  · simp only [decide_eq_false hfew] at hf
    go_enter Try.func4, Try.ntmps4
    go_wp2_with (first
      | (go_at_call 10; refine (hh _).mono ?_; rintro e w1 ⟨rfl, hx1⟩)
      | (go_at_call 11; refine (hf _).mono ?_; rintro e w2 ⟨rfl, rfl⟩))
    go_ret
    exact ⟨rfl, hx1⟩

end Go.Proofs.Ytiapdpbcnbgdmaa

import Derived.Test.YtiapdpbcnbgdmaaEx
set_option linter.unusedVariables false
set_option linter.unusedSimpArgs false
namespace Go.Proofs.Ytiapdpbcnbgdmaa
open Go.RowKit

def cmpI (a b : Int) : Int := if a < b then -1 else if b < a then 1 else 0
theorem isNaN_any (a : Int) (w : World) : Calls Try.prog 70 #[.int .i64 a] w fun e w' => e = .returned (.bool false) ∧ w = w' := by
  go_enter Try.func70, Try.ntmps70
  go_wp2
  go_ret
  exact ⟨rfl, rfl⟩
set_option maxHeartbeats 1000000 in
theorem compare1_any (a b : Int) (w : World) : Calls Try.prog 66 #[.int .i64 a, .int .i64 b] w fun e w' => e = .returned (.int .i64 (cmpI a b)) ∧ w = w' := by
  have hc := isNaN_any a w
  have hd := isNaN_any b w
  by_cases h1 : a < b
  · have e : cmpI a b = -1 := by simp [cmpI, h1]
    rw [e]
    go_enter Try.func66, Try.ntmps66
    go_wp2_with (go_at_call 70; first | (refine hc.mono ?_; clear hc; rintro e w' ⟨rfl, rfl⟩) | (refine hd.mono ?_; rintro e w' ⟨rfl, rfl⟩))
    go_ret
    exact ⟨rfl, rfl⟩
  · by_cases h2 : b < a
    · have e : cmpI a b = 1 := by simp [cmpI, h1, h2]
      rw [e]
      go_enter Try.func66, Try.ntmps66
      go_wp2_with (go_at_call 70; first | (refine hc.mono ?_; clear hc; rintro e w' ⟨rfl, rfl⟩) | (refine hd.mono ?_; rintro e w' ⟨rfl, rfl⟩))
      go_ret
      exact ⟨rfl, rfl⟩
    · have e : cmpI a b = 0 := by simp [cmpI, h1, h2]
      rw [e]
      go_enter Try.func66, Try.ntmps66
      go_wp2_with (go_at_call 70; first | (refine hc.mono ?_; clear hc; rintro e w' ⟨rfl, rfl⟩) | (refine hd.mono ?_; rintro e w' ⟨rfl, rfl⟩))
      go_ret
      exact ⟨rfl, rfl⟩
def cmpP (p q : Int × Int) : Int := if cmpI p.1 q.1 ≠ 0 then cmpI p.1 q.1 else cmpI p.2 q.2
set_option maxHeartbeats 1000000 in
theorem compare2_any (B C : Nat) (p q : Int × Int) (w : World) (h0 : w.cell? ⟨B, 0, none⟩ = some (.int .i64 p.1)) (h1 : w.cell? ⟨B, 1, none⟩ = some (.int .i64 p.2)) (k0 : w.cell? ⟨C, 0, none⟩ = some (.int .i64 q.1)) (k1 : w.cell? ⟨C, 1, none⟩ = some (.int .i64 q.2)) :
    Calls Try.prog 54 #[.slice (some ⟨B, 0, none⟩) 2 2, .slice (some ⟨C, 0, none⟩) 2 2] w fun e w' => e = .returned (.int .i64 (cmpP p q)) ∧ w = w' := by
  have hc := compare1_any p.1 q.1 w
  have hd := compare1_any p.2 q.2 w
  have HP : Hid (cmpP p q = if cmpI p.1 q.1 ≠ 0 then cmpI p.1 q.1 else cmpI p.2 q.2) := rfl
  generalize cmpP p q = r at *
  go_enter Try.func54, Try.ntmps54
  go_wp2
  go_loop [5, 6, 7, 8, 11] (fun _ _ _ _ t => (t = .int .i64 0) ∨ (t = .int .i64 1 ∧ cmpI p.1 q.1 = 0) ∨ (t = .int .i64 2 ∧ cmpI p.1 q.1 = 0 ∧ cmpI p.2 q.2 = 0)) (fun _ _ _ _ t => 2 - (intOf t).toNat)
  case atStart => exact .inl rfl
  case round =>
    rcases hrel with rfl | ⟨rfl, he⟩ | ⟨rfl, he, he2⟩
    · by_cases hz : cmpI p.1 q.1 = 0
      · have hzb : (cmpI p.1 q.1 != 0) = false := by simp [hz]
        clear hd HP
        go_wp2_with (go_at_call 66; refine hc.mono ?_; rintro e w' ⟨rfl, rfl⟩)
        go_round
        case rel => exact .inr (.inl ⟨rfl, hz⟩)
        case measure => simp [intOf]
      · have hzb : (cmpI p.1 q.1 != 0) = true := by simp [hz]
        have hr : r = cmpI p.1 q.1 := by rw [HP.out, if_pos hz]
        clear hd HP
        go_wp2_with (go_at_call 66; refine hc.mono ?_; rintro e w' ⟨rfl, rfl⟩)
        go_ret
        exact ⟨ret_int hr.symm, rfl⟩
    · by_cases hz : cmpI p.2 q.2 = 0
      · have hzb : (cmpI p.2 q.2 != 0) = false := by simp [hz]
        clear hc HP
        go_wp2_with (go_at_call 66; refine hd.mono ?_; rintro e w' ⟨rfl, rfl⟩)
        go_round
        case rel => exact .inr (.inr ⟨rfl, he, hz⟩)
        case measure => simp [intOf]
      · have hzb : (cmpI p.2 q.2 != 0) = true := by simp [hz]
        have hr : r = cmpI p.2 q.2 := by rw [HP.out, if_neg (by simp [he])]
        clear hc HP
        go_wp2_with (go_at_call 66; refine hd.mono ?_; rintro e w' ⟨rfl, rfl⟩)
        go_ret
        exact ⟨ret_int hr.symm, rfl⟩
    · have hr : r = 0 := by rw [HP.out, if_neg (by simp [he]), he2]
      clear hc hd HP
      go_wp2
      go_ret
      exact ⟨rfl, rfl⟩

end Go.Proofs.Ytiapdpbcnbgdmaa

import Derived.Test.YtiapdpbcnbgdmaaC
set_option linter.unusedVariables false
set_option linter.unusedSimpArgs false
namespace Go.Proofs.Ytiapdpbcnbgdmaa
open Go.RowKit


def vAt (l : List Int) (i : Nat) : Prop := 0 ≤ nth l i ∧ nth l i ≤ i ∧ nth l (nth l i).toNat = nth l i
def ValidP (l : List Int) : Prop := (∀ i, i < l.length → vAt l i) ∧ l.length ≤ 2000
instance (l : List Int) (i : Nat) : Decidable (vAt l i) := by unfold vAt; infer_instance
instance (l : List Int) : Decidable (ValidP l) := by unfold ValidP; infer_instance
def validB (l : List Int) : Bool := decide (ValidP l)
theorem validB_bad {l : List Int} {n k : Nat} (hl : Hid (l.length = n)) (hk : k < n) (h : ¬ vAt l k) : validB l = false := by
  unfold validB; rw [decide_eq_false_iff_not]; exact fun h' => h (h'.1 k (by rw [hl.out]; exact hk))
theorem validB_end {l : List Int} {n : Nat} (hl : Hid (l.length = n)) (h : Hid (∀ i, i < n → vAt l i)) : validB l = decide ((n : Int) ≤ 2000) := by
  unfold validB
  rw [decide_eq_decide]
  have hl := hl.out
  constructor
  · rintro ⟨_, h⟩; omega
  · intro h'; exact ⟨fun i hi => h i (by omega), by omega⟩

set_option maxHeartbeats 400000 in
theorem valid_any (A : Option Addr) (n c : Nat) (l : List Int) (w : World) (h : RInts w A n l) :
    Calls Try.prog 25 #[.slice A n c] w fun e w' => e = .returned (.bool (validB l)) ∧ w = w' := by
  obtain ⟨hl, hm, hc⟩ := h
  have HL : Hid (l.length = n) := hl
  clear hl
  go_enter Try.func25, Try.ntmps25
  go_wp2
  go_loop [3, 4, 7] (fun _ _ t => ∃ k : Nat, k ≤ n ∧ t = .int .i64 k ∧ Hid (∀ i, i < k → vAt l i)) (fun _ _ t => n - (intOf t).toNat)
  case atStart => exact ⟨0, Nat.zero_le _, rfl, hid_zero⟩
  case round =>
    obtain ⟨k, hk, rfl, hI⟩ := hrel
    by_cases hlt : k < n
    · obtain ⟨b, off, rfl, hcell⟩ := hc (by omega)
      have hc1 := hcell k hlt
      clear hc
      by_cases hv : vAt l k
      · have HI := hid_succ hI hv
        obtain ⟨h1, h2, h3⟩ := hv
        have hc2 := hcell (nth l k).toNat (by omega)
        have hb : (nth l (nth l k).toNat != nth l k) = false := by simp [h3]
        clear hcell h3 hI
        go_wp2
        go_round
        case rel => exact ⟨k + 1, by omega, by go_num, HI⟩
        case measure => (simp [intOf]; omega)
      · have HB := validB_bad HL hlt hv
        by_cases h1 : nth l k < 0
        · clear hcell hv
          go_wp2
          go_ret
          exact ⟨rfl, rfl⟩
        · by_cases h2 : (k : Int) < nth l k
          · clear hcell hv
            go_wp2
            go_ret
            exact ⟨rfl, rfl⟩
          · have hc2 := hcell (nth l k).toNat (by omega)
            have hb : (nth l (nth l k).toNat != nth l k) = true := by
              rw [bne_iff_ne]; intro e; exact hv ⟨by omega, by omega, e⟩
            clear hcell hv
            go_wp2
            go_ret
            exact ⟨rfl, rfl⟩
    · go_wp2
      go_ret
      have e : k = n := by omega
      subst e
      exact ⟨ret_bool (validB_end HL hI).symm, rfl⟩
end Go.Proofs.Ytiapdpbcnbgdmaa

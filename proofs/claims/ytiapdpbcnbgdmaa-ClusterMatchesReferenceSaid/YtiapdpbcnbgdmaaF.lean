import Derived.Test.YtiapdpbcnbgdmaaE
set_option linter.unusedVariables false
set_option linter.unusedSimpArgs false
namespace Go.Proofs.Ytiapdpbcnbgdmaa
open Go.RowKit

theorem Lib.hid {p : Prop} (h : p) : Hid p := h
def inR (n : Nat) (e : E3) : Prop := 0 ≤ e.a ∧ e.a < n ∧ 0 ≤ e.b ∧ e.b < n
instance (n : Nat) (e : E3) : Decidable (inR n e) := by unfold inR; infer_instance
def costStep (xs : List Int) (c : Int) (e : E3) : Int :=
  if inR xs.length e then (if nth xs e.a.toNat = nth xs e.b.toNat then (if e.w < 0 then wrap64 (c - e.w) else c) else (if 0 < e.w then wrap64 (c + e.w) else c)) else c
/-- the cost by the first k edges -/
def costTo (es : List E3) (xs : List Int) : Nat → Int
  | 0 => 0
  | k + 1 => costStep xs (costTo es xs k) (eth es k)
theorem wrap64_range (x : Int) : -9223372036854775808 ≤ wrap64 x ∧ wrap64 x ≤ 9223372036854775807 := by unfold wrap64; omega
theorem costTo_range (es : List E3) (xs : List Int) (k : Nat) : -9223372036854775808 ≤ costTo es xs k ∧ costTo es xs k ≤ 9223372036854775807 := by
  induction k with
  | zero => simp [costTo]
  | succ k ih =>
    unfold costTo costStep
    split
    · split
      · split
        · exact wrap64_range _
        · exact ih
      · split
        · exact wrap64_range _
        · exact ih
    · exact ih
section
variable {es : List E3} {xs : List Int} {k n : Nat} {ea eb ew : Int} (he : eth es k = ⟨ea, eb, ew⟩) (hl : xs.length = n)
include he hl
theorem cs_out (h : ¬ (0 ≤ ea ∧ ea < n ∧ 0 ≤ eb ∧ eb < n)) : costTo es xs (k + 1) = costTo es xs k := by
  rw [costTo]; unfold costStep; rw [he, hl, if_neg (show ¬ inR n ⟨ea, eb, ew⟩ from h)]
theorem cs_add (h : 0 ≤ ea ∧ ea < n ∧ 0 ≤ eb ∧ eb < n) (h1 : ¬ nth xs ea.toNat = nth xs eb.toNat) (h2 : 0 < ew) : costTo es xs (k + 1) = wrap64 (costTo es xs k + ew) := by
  rw [costTo]; unfold costStep; rw [he, hl, if_pos (show inR n ⟨ea, eb, ew⟩ from h), if_neg h1, if_pos h2]
theorem cs_skip1 (h : 0 ≤ ea ∧ ea < n ∧ 0 ≤ eb ∧ eb < n) (h1 : ¬ nth xs ea.toNat = nth xs eb.toNat) (h2 : ¬ 0 < ew) : costTo es xs (k + 1) = costTo es xs k := by
  rw [costTo]; unfold costStep; rw [he, hl, if_pos (show inR n ⟨ea, eb, ew⟩ from h), if_neg h1, if_neg h2]
theorem cs_sub (h : 0 ≤ ea ∧ ea < n ∧ 0 ≤ eb ∧ eb < n) (h1 : nth xs ea.toNat = nth xs eb.toNat) (h2 : ew < 0) : costTo es xs (k + 1) = wrap64 (costTo es xs k - ew) := by
  rw [costTo]; unfold costStep; rw [he, hl, if_pos (show inR n ⟨ea, eb, ew⟩ from h), if_pos h1, if_pos h2]
theorem cs_skip2 (h : 0 ≤ ea ∧ ea < n ∧ 0 ≤ eb ∧ eb < n) (h1 : nth xs ea.toNat = nth xs eb.toNat) (h2 : ¬ ew < 0) : costTo es xs (k + 1) = costTo es xs k := by
  rw [costTo]; unfold costStep; rw [he, hl, if_pos (show inR n ⟨ea, eb, ew⟩ from h), if_pos h1, if_neg h2]
end
theorem ext_ad (w : World) (o : Obj) (q : Nat) : Ext w ((w.alloc o).drewN q) := ⟨rfl, rfl, rfl, by simp [World.drewN], fun k hk => (ext_alloc w o).block k hk⟩
theorem beq_t {a b : Int} (h : a = b) : (a == b) = true := by simp [h]
theorem beq_f {a b : Int} (h : ¬ a = b) : (a == b) = false := by simp [h]
theorem bne_t {a b : Int} (h : ¬ a = b) : (a != b) = true := by simp [h]
theorem bne_f {a b : Int} (h : a = b) : (a != b) = false := by simp [h]

set_option maxHeartbeats 1000000 in
theorem cost_any (A : Option Addr) (n c : Nat) (es : List E3) (A' : Option Addr) (n' c' : Nat) (xs : List Int) (w : World) (h : REdges w A n es) (h' : RInts w A' n' xs) :
    Calls Try.prog 15 #[.slice A n c, .slice A' n' c'] w fun e w' => e = .returned (.int .i64 (costTo es xs n)) ∧ Ext w w' := by
  have hbig := h.big
  have hbig' := h'.big
  go_enter Try.func15, Try.ntmps15
  go_wp2
  go_loopw [5, 7, 8, 11] (fun s _ _ t wr => ∃ k : Nat, k ≤ n ∧ t = .int .i64 k ∧ s = .int .i64 (costTo es xs k) ∧ Ext w wr) (fun _ _ _ t _ => n - (intOf t).toNat)
  case atStart => exact ⟨0, Nat.zero_le _, rfl, rfl, Below.refl _ _⟩
  case round =>
    obtain ⟨k, hk, rfl, rfl, hb⟩ := hrel
    by_cases hlt : k < n
    · obtain ⟨b, off, rfl, hcell⟩ := h.cell (by omega)
      have hc1 := cell_ext hb (hcell k hlt).1
      have hc2 := cell_ext hb (hcell k hlt).2.1
      have hc3 := cell_ext hb (hcell k hlt).2.2
      have hbl : b < wr.heap.size := World.block_lt_of_cell? _ _ hc1
      clear hcell h
      have hr := costTo_range es xs k
      have hl := Lib.hid h'.len
      obtain ⟨ea, eb, ew, he⟩ : ∃ ea eb ew, Hid (eth es k = ⟨ea, eb, ew⟩) := ⟨_, _, _, rfl⟩
      rw [he.out] at hc1 hc2 hc3
      dsimp only at hc1 hc2 hc3
      by_cases h1 : 0 ≤ ea ∧ ea < n' ∧ 0 ≤ eb ∧ eb < n'
      · have H1 := Lib.hid h1
        obtain ⟨h1, h2, h3, h4⟩ := h1
        obtain ⟨b', off', rfl, hcell⟩ := h'.cell (by omega)
        have hd1 := cell_ext hb (hcell ea.toNat (by omega))
        have hd2 := cell_ext hb (hcell eb.toNat (by omega))
        have hbl' : b' < wr.heap.size := World.block_lt_of_cell? _ _ hd1
        clear hcell h'
        by_cases h5 : nth xs ea.toNat = nth xs eb.toNat
        · have h5b := beq_t h5
          by_cases h6 : ew < 0
          · have HS := Lib.hid (cs_sub he.out hl.out H1.out h5 h6)
            clear h5
            go_wp2
            all_goals go_quiet (fail)
            all_goals go_wp2
            all_goals (go_roundw; (case rel => exact ⟨k + 1, by omega, by go_num, by rw [HS.out], hb.trans (ext_ad _ _ _)⟩); (case measure => (simp [intOf]; omega)))
          · have HS := Lib.hid (cs_skip2 he.out hl.out H1.out h5 h6)
            clear h5
            go_wp2
            all_goals go_quiet (fail)
            all_goals go_wp2
            all_goals (go_roundw; (case rel => exact ⟨k + 1, by omega, by go_num, by rw [HS.out], hb.trans (ext_ad _ _ _)⟩); (case measure => (simp [intOf]; omega)))
        · have h5b := beq_f h5
          by_cases h6 : 0 < ew
          · have HS := Lib.hid (cs_add he.out hl.out H1.out h5 h6)
            clear h5
            go_wp2
            all_goals go_quiet (fail)
            all_goals go_wp2
            all_goals (go_roundw; (case rel => exact ⟨k + 1, by omega, by go_num, by rw [HS.out], hb.trans (ext_ad _ _ _)⟩); (case measure => (simp [intOf]; omega)))
          · have HS := Lib.hid (cs_skip1 he.out hl.out H1.out h5 h6)
            clear h5
            go_wp2
            all_goals go_quiet (fail)
            all_goals go_wp2
            all_goals (go_roundw; (case rel => exact ⟨k + 1, by omega, by go_num, by rw [HS.out], hb.trans (ext_ad _ _ _)⟩); (case measure => (simp [intOf]; omega)))
      · have HS := Lib.hid (cs_out he.out hl.out h1)
        clear h'
        go_wp2
        all_goals (go_roundw; (case rel => exact ⟨k + 1, by omega, by go_num, by rw [HS.out], hb.trans (ext_alloc _ _)⟩); (case measure => (simp [intOf]; omega)))
    · go_wp2
      go_ret
      have e : k = n := by omega
      subst e
      exact ⟨rfl, hb⟩

end Go.Proofs.Ytiapdpbcnbgdmaa

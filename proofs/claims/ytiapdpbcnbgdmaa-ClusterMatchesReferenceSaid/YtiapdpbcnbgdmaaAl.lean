import Derived.Test.YtiapdpbcnbgdmaaCs
set_option linter.unusedVariables false
set_option linter.unusedSimpArgs false
namespace Go.Proofs.Ytiapdpbcnbgdmaa
open Go.RowKit

def clashP (same entity : List Int) (a b : Int) : Bool := decide (nth same a.toNat ≠ nth same b.toNat ∧ nth entity a.toNat = nth entity b.toNat)
set_option maxHeartbeats 1000000 in
theorem allowed1_any (a b : Int) (B1 B2 : Nat) (A1 A2 : Option Addr) (m c1 c2 : Nat) (same entity : List Int) (W : World) (hb1 : W.cell? ⟨B1, 0, none⟩ = some (.slice A1 m c1)) (hb2 : W.cell? ⟨B2, 0, none⟩ = some (.slice A2 m c2))
    (h1 : RInts W A1 m same) (h2 : RInts W A2 m entity) (ha : 0 ≤ a ∧ a < m) (hb : 0 ≤ b ∧ b < m) :
    Calls Try.prog 45 #[.agg #[.int .i64 a, .int .i64 b], .pointer (some ⟨B1, 0, none⟩), .pointer (some ⟨B2, 0, none⟩)] W fun e W' => e = .returned (.bool (clashP same entity a b)) ∧ Ext W W' := by
  have hm : 0 < m := by omega
  obtain ⟨g1, o1, rfl, k1⟩ := h1.cell hm
  obtain ⟨g2, o2, rfl, k2⟩ := h2.cell hm
  have x1 := k1 a.toNat (by omega)
  have x2 := k1 b.toNat (by omega)
  have y1 := k2 a.toNat (by omega)
  have y2 := k2 b.toNat (by omega)
  have hB1 := World.block_lt_of_cell? W _ hb1
  have hB2 := World.block_lt_of_cell? W _ hb2
  have hg1 := World.block_lt_of_cell? W _ x1
  have hg2 := World.block_lt_of_cell? W _ y1
  have hbig := h1.big
  dsimp only at hB1 hB2 hg1 hg2
  clear h1 h2 k1 k2
  by_cases h : nth same a.toNat = nth same b.toNat
  · have hn : (nth same a.toNat != nth same b.toNat) = false := bne_f h
    have hn' : decide (nth same a.toNat ≠ nth same b.toNat) = false := by simp [h]
    have hc : clashP same entity a b = false := by simp [clashP, h]
    rw [hc]
    go_enter Try.func45, Try.ntmps45
    go_wp2
    go_quiet (fail)
    go_wp2
    go_ret
    exact ⟨ret_bool rfl, ext_ad _ _ _⟩
  · have hn : (nth same a.toNat != nth same b.toNat) = true := bne_t h
    have hn' : decide (nth same a.toNat ≠ nth same b.toNat) = true := by simp [h]
    by_cases h' : nth entity a.toNat = nth entity b.toNat
    · have hk : (nth entity a.toNat == nth entity b.toNat) = true := beq_t h'
      have hk' : decide (nth entity a.toNat = nth entity b.toNat) = true := by simp [h']
      have hc : clashP same entity a b = true := by simp [clashP, h, h']
      rw [hc]
      go_enter Try.func45, Try.ntmps45
      go_wp2
      go_quiet (fail)
      go_wp2
      go_ret
      exact ⟨ret_bool rfl, ext_ad _ _ _⟩
    · have hk : (nth entity a.toNat == nth entity b.toNat) = false := beq_f h'
      have hk' : decide (nth entity a.toNat = nth entity b.toNat) = false := by simp [h']
      have hc : clashP same entity a b = false := by simp [clashP, h, h']
      rw [hc]
      go_enter Try.func45, Try.ntmps45
      go_wp2
      go_quiet (fail)
      go_wp2
      go_ret
      exact ⟨ret_bool rfl, ext_ad _ _ _⟩
def sameB (same entity : List Int) (m : Nat) : Bool := (List.range m).all fun i => nth entity i == nth entity (nth same i).toNat
def allowedB (same : List Int) (ps : List (Int × Int)) (entity : List Int) : Bool :=
  validB same && (pairedB same.length ps && (decide (entity.length = same.length) && (validB entity && (sameB same entity same.length && !(List.range ps.length).any fun j => clashP same entity (pth ps j).1 (pth ps j).2))))
theorem sameB_bad {same entity : List Int} {m k : Nat} (hk : k < m) (h : ¬ nth entity k = nth entity (nth same k).toNat) : sameB same entity m = false := by
  unfold sameB
  rw [List.all_eq_false]
  exact ⟨k, by simpa using hk, by simpa using h⟩
theorem sameB_end {same entity : List Int} {m : Nat} (h : Hid (∀ i, i < m → nth entity i = nth entity (nth same i).toNat)) : sameB same entity m = true := by
  unfold sameB
  rw [List.all_eq_true]
  intro i hi
  have := h.out i (by simpa using hi)
  simpa using this
set_option maxHeartbeats 2000000 in
theorem allowed_any (A1 : Option Addr) (m c1 : Nat) (same : List Int) (A2 : Option Addr) (q c2 : Nat) (ps : List (Int × Int)) (A3 : Option Addr) (m3 c3 : Nat) (entity : List Int) (w : World) (h1 : RInts w A1 m same) (h2 : RPairs w A2 q ps) (h3 : RInts w A3 m3 entity) :
    Calls Try.prog 17 #[.slice A1 m c1, .slice A2 q c2, .slice A3 m3 c3] w fun e w' => e = .returned (.bool (allowedB same ps entity)) ∧ Ext w w' := by
  obtain ⟨W0, HW⟩ : ∃ W0, Hid (W0 = (w.alloc (.cells #[.slice A1 m c1] 23)).alloc (.cells #[.slice A3 m3 c3] 23)) := ⟨_, rfl⟩
  have hx0 : Ext w W0 := by rw [HW.out]; exact Ext.trans (ext_alloc _ _) (ext_alloc _ _)
  have b1 : W0.cell? ⟨w.heap.size, 0, none⟩ = some (.slice A1 m c1) := by rw [HW.out]; exact cell_ext (ext_alloc _ _) (cell_new1 _ _ _)
  have b3 : W0.cell? ⟨w.heap.size + 1, 0, none⟩ = some (.slice A3 m3 c3) := by
    rw [HW.out]
    have := cell_new1 (w.alloc (.cells #[.slice A1 m c1] 23)) (.slice A3 m3 c3) 23
    rwa [World.size_alloc] at this
  have r1 := h1.ext hx0
  have r2 := h2.ext hx0
  have r3 := h3.ext hx0
  have hl1 := h1.len
  have hl2 := h2.len
  have hl3 := h3.len
  have hc1 := valid_any A1 m c1 same W0 r1
  have hc2 := paired_any m A2 q c2 ps W0 r2
  clear h1 h2 h3
  unfold allowedB
  rw [hl1, hl2, hl3]
  cases hv : validB same with
  | false =>
    rw [hv] at hc1
    clear hc2
    go_enter Try.func17, Try.ntmps17
    go_wp2_with (first | (go_at_call 25; rw [← HW.out]; refine hc1.mono ?_; rintro e w' ⟨rfl, rfl⟩))
    go_ret
    exact ⟨rfl, hx0⟩
  | true =>
    rw [hv] at hc1
    rw [Bool.true_and]
    cases hp : pairedB m ps with
    | false =>
      rw [hp] at hc2
      go_enter Try.func17, Try.ntmps17
      go_wp2_with (first | (go_at_call 25; rw [← HW.out]; refine hc1.mono ?_; rintro e w' ⟨rfl, rfl⟩) | (go_at_call 27; refine hc2.mono ?_; rintro e w1 ⟨rfl, hb1⟩))
      go_ret
      exact ⟨rfl, Ext.trans hx0 hb1⟩
    | true =>
      rw [hp] at hc2
      rw [Bool.true_and]
      by_cases hlm : m3 = m
      · subst hlm
        have hc3 : ∀ W, Ext W0 W → Calls Try.prog 25 #[.slice A3 m3 c3] W fun e w' => e = .returned (.bool (validB entity)) ∧ W = w' := fun W hW => valid_any A3 m3 c3 entity W (r3.ext hW)
        have e1 : decide (m3 = m3) = true := by simp
        rw [e1, Bool.true_and]
        cases hv3 : validB entity with
        | false =>
          rw [hv3] at hc3
          clear e1
          go_enter Try.func17, Try.ntmps17
          go_wp2_with (first | (go_at_call 25; rw [← HW.out]; refine hc1.mono ?_; rintro e w' ⟨rfl, rfl⟩) | (go_at_call 25; refine (hc3 _ hb1).mono ?_; rintro e w' ⟨rfl, rfl⟩) | (go_at_call 27; refine hc2.mono ?_; rintro e w1 ⟨rfl, hb1⟩; have b1' := cell_ext hb1 b1; have b3' := cell_ext hb1 b3))
          go_ret
          exact ⟨rfl, Ext.trans hx0 hb1⟩
        | true =>
          rw [hv3] at hc3
          rw [Bool.true_and]
          clear e1
          go_enter Try.func17, Try.ntmps17
          go_wp2_with (first | (go_at_call 25; rw [← HW.out]; refine hc1.mono ?_; rintro e w' ⟨rfl, rfl⟩) | (go_at_call 25; refine (hc3 _ hb1).mono ?_; rintro e w' ⟨rfl, rfl⟩) | (go_at_call 27; refine hc2.mono ?_; rintro e w1 ⟨rfl, hb1⟩; have b1' := cell_ext hb1 b1; have b3' := cell_ext hb1 b3))
          have hgood := pairedB_good hl2 hp
          have hvv := validB_good hv
          have hsb := fun k => same_cls hvv hl1 (i := k)
          have hx1 := Ext.trans hx0 hb1
          have hm1 := World.block_lt_of_cell? _ _ b1
          have hm3 := World.block_lt_of_cell? _ _ b3
          have r11 := r1.ext hb1
          have r12 := r2.ext hb1
          have r13 := r3.ext hb1
          clear hc1 hc2 hc3 b1 b3 r1 r2 r3 HW hb1 hx0
          go_loopw [7, 8, 33] (fun _ _ t wr => ∃ k : Nat, k ≤ m3 ∧ t = .int .i64 k ∧ Hid (∀ i, i < k → nth entity i = nth entity (nth same i).toNat) ∧ Ext w1 wr) (fun _ _ t _ => m3 - (intOf t).toNat)
          case atStart => exact ⟨0, Nat.zero_le _, rfl, hid_zero, Below.refl _ _⟩
          case round =>
            obtain ⟨k, hk, rfl, hI, hb⟩ := hrel
            have bb1 := cell_ext hb b1'
            have bb3 := cell_ext hb b3'
            by_cases hlt : k < m3
            · have HCL := hsb k (by omega) (by omega)
              rw [Int.toNat_natCast] at HCL
              obtain ⟨g1, o1, rfl, k1⟩ := (r11.ext hb).cell (by omega)
              obtain ⟨g3, o3, rfl, k3⟩ := (r13.ext hb).cell (by omega)
              have x1 := k1 k hlt
              have y1 := k3 k hlt
              have y2 := k3 (nth same k).toNat (by have := HCL.1; have := HCL.2.1; omega)
              have hlo := HCL.1
              have hhi := HCL.2.1
              have hbig := r11.big
              clear k1 k3 r11 r12 r13 hsb hgood HCL b1' b3'
              by_cases heq : nth entity k = nth entity (nth same k).toNat
              · have HI := hid_succ hI heq
                have e1 : (nth entity k != nth entity (nth same k).toNat) = false := bne_f heq
                clear hI heq
                go_wp2
                go_quiet (fail)
                go_wp2
                go_roundw
                case rel => exact ⟨k + 1, by omega, by go_num, HI, Ext.trans hb ⟨rfl, rfl, rfl, by simp [World.drewN], fun _ _ => rfl⟩⟩
                case measure => (simp [intOf]; omega)
              · have e1 : (nth entity k != nth entity (nth same k).toNat) = true := bne_t heq
                have hfin := Lib.hid (sameB_bad hlt heq)
                clear hI heq
                go_wp2
                go_quiet (fail)
                go_wp2
                go_ret
                exact ⟨by rw [hfin.out, Bool.false_and]; rfl, Ext.trans (Ext.trans hx1 hb) ⟨rfl, rfl, rfl, by simp [World.drewN], fun _ _ => rfl⟩⟩
            · obtain rfl : k = m3 := by omega
              have hfin := Lib.hid (sameB_end hI)
              have rr1 := r11.ext hb
              have rr3 := r13.ext hb
              have hcc := containsPairs 45 #[.pointer (some ⟨w.heap.size, 0, none⟩), .pointer (some ⟨w.heap.size + 1, 0, none⟩)] eg45 (fun j => clashP same entity (pth ps j).1 (pth ps j).2) A2 q c2 ps wr (r12.ext hb)
                (fun j hj W hW => by
                  obtain ⟨g1, g2, g3, g4⟩ := hgood j hj
                  exact allowed1_any _ _ _ _ A1 A3 k c1 c3 same entity W (cell_ext hW bb1) (cell_ext hW bb3) (rr1.ext hW) (rr3.ext hW) ⟨g1, g2⟩ ⟨g3, g4⟩)
              clear hI r11 r12 r13 rr1 rr3 hsb hgood
              go_wp2_with (go_at_call 44; refine hcc.mono ?_; rintro e w' ⟨rfl, hb'⟩)
              go_ret
              exact ⟨by rw [hfin.out, Bool.true_and]; rfl, Ext.trans (Ext.trans hx1 hb) hb'⟩
      · have e1 : decide (m3 = m) = false := by simp [hlm]
        rw [e1, Bool.false_and]
        go_enter Try.func17, Try.ntmps17
        go_wp2_with (first | (go_at_call 25; rw [← HW.out]; refine hc1.mono ?_; rintro e w' ⟨rfl, rfl⟩) | (go_at_call 27; refine hc2.mono ?_; rintro e w1 ⟨rfl, hb1⟩; have b1' := cell_ext hb1 b1; have b3' := cell_ext hb1 b3))
        go_ret
        exact ⟨rfl, Ext.trans hx0 hb1⟩

end Go.Proofs.Ytiapdpbcnbgdmaa

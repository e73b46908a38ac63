import Derived.Test.YtiapdpbcnbgdmaaPo
import Derived.Test.YtiapdpbcnbgdmaaHd
import Derived.Test.YtiapdpbcnbgdmaaAp
set_option linter.unusedVariables false
set_option linter.unusedSimpArgs false
namespace Go.Proofs.Ytiapdpbcnbgdmaa
open Go.RowKit

theorem u8_range {x : Int} (h : (Lit.int .u8 x).wf = true) : 0 ≤ x ∧ x ≤ 255 := by
  have h1 : IntKind.u8.min ≤ x ∧ x ≤ IntKind.u8.max := by simpa [Lit.wf] using h
  exact ⟨h1.1, h1.2⟩
theorem own_empty (W : World) : (W.alloc (.cells #[] 42)).ownsRow W.heap.size 42 2 (.slice (some ⟨W.heap.size, 0, none⟩) 0 0) ([] : List (Int × Int)).length (pcells []) :=
  ⟨rfl, .inr ⟨_, 0, #[], rfl, Nat.le_refl _, heap_alloc_new _ _, Nat.le_refl _, by simp [maxLen], rfl, rfl⟩⟩
set_option maxHeartbeats 4000000 in
theorem lawFurther_any (A : Option Addr) (n c : Nat) (es : List E3) (A1 : Option Addr) (m c1 : Nat) (same : List Int) (A2 : Option Addr) (q c2 : Nat) (ps : List (Int × Int)) (x y : Int) (w : World)
    (h : REdges w A n es) (h1 : RInts w A1 m same) (h2 : RPairs w A2 q ps) (hx : (Lit.int .u8 x).wf = true) (hy : (Lit.int .u8 y).wf = true) :
    Calls Try.prog 8 #[.slice A n c, .slice A1 m c1, .slice A2 q c2, .int .u8 x, .int .u8 y] w fun e w' => e = .returned (.bool true) ∧ Ext w w' := by
  have hf := fun W => few_any A n c A1 m c1 A2 q c2 30 W h.big h1.big h2.big
  have hh := head_any
  obtain ⟨hx0, hx1⟩ := u8_range hx
  obtain ⟨hy0, hy1⟩ := u8_range hy
  have hb1 := h1.big
  have hb2 := h2.big
  by_cases hfew : (m : Int) ≤ 30 ∧ n ≤ 80 ∧ q ≤ 40
  · simp only [decide_eq_true hfew] at hf
    obtain ⟨f1, f2, f3⟩ := hfew
    by_cases h39 : q ≤ 39
    · by_cases h0 : m = 0
      · subst h0
        go_enter Try.func8, Try.ntmps8
        go_wp2_with (first
          | (go_at_call 10; refine (hh _).mono ?_; rintro e w1 ⟨rfl, hx1⟩)
          | (go_at_call 11; refine (hf _).mono ?_; rintro e w2 ⟨rfl, rfl⟩))
        go_ret
        exact ⟨rfl, hx1⟩
      · have hm0 : ((m : Int) == 0) = false := beq_f (by omega)
        obtain rfl := h.len
        obtain rfl := h1.len
        obtain rfl := h2.len
        have hc := fun W (hW : Ext w W) => cluster_any A es.length c es A1 same.length c1 same A2 ps.length c2 ps W (h.ext hW) (h1.ext hW) (h2.ext hW) (by omega) (by omega)
        cases hg : goodB es same ps with
        | false =>
          simp only [hg, Bool.false_eq_true, if_false] at hc
          go_enter Try.func8, Try.ntmps8
          go_wp2_with (first
            | (go_at_call 10; refine (hh _).mono ?_; rintro e w1 ⟨rfl, hx1⟩)
            | (go_at_call 11; refine (hf _).mono ?_; rintro e w2 ⟨rfl, rfl⟩)
            | (go_at_call 12; refine (hc _ hx1).mono ?_; rintro e w3 ⟨v, k, rfl, hx2, rfl, rfl⟩))
          go_quiet (fail)
          go_wp2
          go_ret
          exact ⟨rfl, Ext.trans (Ext.trans hx1 hx2) (ext_drewN _ _)⟩
        | true =>
          simp only [hg, if_true] at hc
          have hsl0 : (0 : Int) < same.length := by omega
          have hp0 := Int.emod_nonneg x (show (same.length : Int) ≠ 0 by omega)
          have hp1 := Int.emod_lt_of_pos x hsl0
          have hr0 := Int.emod_nonneg y (show (same.length : Int) ≠ 0 by omega)
          have hr1 := Int.emod_lt_of_pos y hsl0
          have hpn : (((x % (same.length : Int)).toNat : Nat) : Int) = (x % (same.length : Int)) := Int.toNat_of_nonneg hp0
          have hrn : (((y % (same.length : Int)).toNat : Nat) : Int) = (y % (same.length : Int)) := Int.toNat_of_nonneg hr0
          go_enter Try.func8, Try.ntmps8
          go_wp2_with (first
            | (go_at_call 10; refine (hh _).mono ?_; rintro e w1 ⟨rfl, hx1⟩)
            | (go_at_call 11; refine (hf _).mono ?_; rintro e w2 ⟨rfl, rfl⟩)
            | (go_at_call 12
               refine (hc _ hx1).mono ?_
               rintro e w3 ⟨v, k, rfl, hx2, rfl, ent, hcp, hrow⟩
               have hx3 := Ext.trans hx1 hx2
               have hel : ent.length = same.length := by have := hrow.1; simpa using this
               rw [← hel] at hrow
               obtain ⟨A4, c4, hv4, hr4⟩ := own_reads hrow (by omega)
               rw [hel] at hv4 hr4
               subst hv4
               clear hel hrow))
          obtain ⟨b4, o4, rfl, hc4⟩ := hr4.cell (by omega)
          have q1 := hc4 (x % (same.length : Int)).toNat (by omega)
          have q2 := hc4 (y % (same.length : Int)).toNat (by omega)
          by_cases heq : nth ent (x % (same.length : Int)).toNat = nth ent (y % (same.length : Int)).toNat
          · have hb := beq_t heq
            clear hc4
            go_quiet (fail)
            go_wp2
            go_ret
            exact ⟨rfl, Ext.trans hx3 (ext_drewN _ _)⟩
          · have hb := beq_f heq
            clear hc4
            go_quiet (fail)
            obtain ⟨Wq, hWq⟩ : ∃ Wq, Hid (Wq = w3.drewN nq) := ⟨_, rfl⟩
            have hxq : Ext w3 Wq := by rw [hWq.out]; exact ext_drewN _ _
            rw [← hWq.out]
            have hx4 := Ext.trans hx3 hxq
            obtain ⟨v1, W1, happ1, hown1, hg1, -⟩ := append_pairs (c := c2) (own_empty Wq) (h2.ext (Ext.trans hx4 (ext_alloc Wq (.cells #[] 42)))) (by simp) (by simp) (by omega)
            rw [List.nil_append] at hown1
            have hxw1 : Ext w W1 := (Ext.trans hx4 (ext_alloc Wq (.cells #[] 42))).grown hg1 (Nat.le_trans hx4.size (ext_alloc Wq (.cells #[] 42)).size) (fun k e => by
              have : Wq.heap.size = k := by simpa [Value.ownBlock] using e
              have := hx4.size
              omega)
            have hs1 : Wq.heap.size ≤ W1.heap.size := by have := hg1.size; rw [World.size_alloc] at this; omega
            obtain ⟨v2, W2, happ2, hown2, hg2, -⟩ := append_pair (x % (same.length : Int), y % (same.length : Int)) hown1 hs1 (by omega)
            have hxw2 : Ext w W2 := hxw1.grown hg2 hxw1.size (fun k e => by
              have := (own_block hown1 e).1
              have := hx4.size
              omega)
            have hy1 : Ext w3 W1 := (Ext.trans hxq (ext_alloc Wq (.cells #[] 42))).grown hg1 (Nat.le_trans hxq.size (ext_alloc Wq (.cells #[] 42)).size) (fun k e => by
              have : Wq.heap.size = k := by simpa [Value.ownBlock] using e
              have := hxq.size
              omega)
            have hy2 : Ext w3 W2 := hy1.grown hg2 hy1.size (fun k e => by
              have := (own_block hown1 e).1
              have := hxq.size
              omega)
            have hr4y := hr4.ext hy2
            have hg' := good_snoc ⟨hp0, hp1⟩ ⟨hr0, hr1⟩ hg
            have hfur := fun (b : List Int) (hb : ClusterP es same _ b) => cluster_further ⟨hp0, hp1⟩ ⟨hr0, hr1⟩ hg hg' hcp hb heq
            obtain ⟨ps2, hps2⟩ : ∃ ps2, Hid (ps ++ [(x % (same.length : Int), y % (same.length : Int))] = ps2) := ⟨_, rfl⟩
            have hl5 : ps2.length = ps.length + 1 := by rw [← hps2.out]; simp
            rw [hps2.out] at hown2 hg' hfur
            obtain ⟨A5, c5, hv5, hr5⟩ := own_pairs hown2 (by omega)
            subst hv5
            have hc2 := cluster_any A es.length c es A1 same.length c1 same A5 ps2.length c5 ps2 W2 (h.ext hxw2) (h1.ext hxw2) hr5 (by omega) (by omega)
            simp only [hg', if_true] at hc2
            have hfur := Lib.hid hfur
            have HL5 := Lib.hid hl5
            dsimp only at happ2
            clear hown1 hown2 hg1 hg2 hr5 hcp heq hg' h2 hc hf hh hl5
            go_wp2_with (first
              | (at_builtin; refine wpList_app happ1 rfl rfl rfl rfl ?_; clear happ1)
              | (at_builtin; refine wpList_app happ2 rfl rfl rfl rfl ?_)
              | (go_at_call 12
                 refine hc2.mono ?_
                 rintro e w5 ⟨v, k, rfl, hx5, rfl, ent2, hcp2, hrow2⟩
                 obtain rfl : ent = ent2 := hfur.out ent2 hcp2
                 have hel : ent.length = same.length := by have := hrow2.1; simpa using this
                 rw [← hel] at hrow2
                 obtain ⟨A6, c6, hv6, hr6⟩ := own_reads hrow2 (by omega)
                 rw [hel] at hv6 hr6
                 subst hv6
                 have hin := ints_any (some ⟨b4, o4, none⟩) same.length c4 ent A6 same.length c6 ent w5 (hr4y.ext hx5) hr6
                 rw [decide_eq_true (rfl : ent = ent)] at hin
                 clear hel hrow2)
              | (go_at_call 14
                 refine hin.mono ?_
                 rintro e w6 ⟨rfl, hx6⟩))
            go_ret
            exact ⟨rfl, Ext.trans (Ext.trans hxw2 hx5) hx6⟩
    · go_enter Try.func8, Try.ntmps8
      go_wp2_with (first
        | (go_at_call 10; refine (hh _).mono ?_; rintro e w1 ⟨rfl, hx1⟩)
        | (go_at_call 11; refine (hf _).mono ?_; rintro e w2 ⟨rfl, rfl⟩))
      go_ret
      exact ⟨rfl, hx1⟩
  · simp only [decide_eq_false hfew] at hf
    go_enter Try.func8, Try.ntmps8
    go_wp2_with (first
      | (go_at_call 10; refine (hh _).mono ?_; rintro e w1 ⟨rfl, hx1⟩)
      | (go_at_call 11; refine (hf _).mono ?_; rintro e w2 ⟨rfl, rfl⟩))
    go_ret
    exact ⟨rfl, hx1⟩

end Go.Proofs.Ytiapdpbcnbgdmaa

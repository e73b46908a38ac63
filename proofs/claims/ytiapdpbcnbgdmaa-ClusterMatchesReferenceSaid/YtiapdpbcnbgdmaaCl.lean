import Derived.Test.YtiapdpbcnbgdmaaAl
set_option linter.unusedVariables false
set_option linter.unusedSimpArgs false
namespace Go.Proofs.Ytiapdpbcnbgdmaa
open Go.RowKit

def apK (cl : List Int) (k at_ : Nat) : Int × Int := (min (nth cl k) (nth cl at_), max (nth cl k) (nth cl at_))
def clashK (AP : Int × Int → Option Bool) (cl hs : List Int) (at_ k : Nat) : Bool := decide (nth hs k = nth hs at_) && (AP (apK cl k at_)).getD false
/-- Does the class with an index clash with an earlier one in its cluster? -/
def clashB (AP : Int × Int → Option Bool) (cl hs : List Int) (at_ : Nat) : Bool := (List.range at_).any (clashK AP cl hs at_)
theorem clashB_hit {AP : Int × Int → Option Bool} {cl hs : List Int} {at_ k : Nat} (hk : k < at_) (h : clashK AP cl hs at_ k = true) : clashB AP cl hs at_ = true := by
  unfold clashB
  rw [List.any_eq_true]
  exact ⟨k, by simpa using hk, h⟩
theorem clashB_miss {AP : Int × Int → Option Bool} {cl hs : List Int} {at_ : Nat} (h : Hid (∀ k, k < at_ → clashK AP cl hs at_ k = false)) : clashB AP cl hs at_ = false := by
  unfold clashB
  rw [List.any_eq_false]
  intro k hk
  have := h.out k (by simpa using hk)
  simpa using this
/-- A guarded call of a Go function. -/
theorem flow_call_want {P : Program} {ops : Array Oper} {C : Nat → World → Prop} {ms : List Nat} {Q : Act → Prop} {k : Nat} {o : Oper} {rest : List Oper} {a : Act} (v : Value) (f : FuncId) (args : Array Value) (hw : Region.wanted o (yielded ops a.tmps) = true) (hk : ms.idxOf? k = none) (h : ∀ b W, C b W → (execOp a.eval o).run P W = .ok (.enter f args) W)
    (hc : ∀ b W, C b W → Calls P f args W fun e W' => e = .returned v ∧ C b W') (hr : wpFlow P ops C ms Q (k + 1) rest (a.put o.dst v)) : wpFlow P ops C ms Q k (o :: rest) a :=
  ⟨v, .inl ⟨hw, by rw [hk]; intro b W hW; rw [h b W hW]; exact hc b W hW⟩, hr⟩
theorem ext_drewN (w : World) (q : Nat) : Ext w (w.drewN q) := ⟨rfl, rfl, rfl, by simp [World.drewN], fun _ _ => rfl⟩

set_option maxHeartbeats 2000000 in
theorem clash_any (v0 v1 : Value) (r2 : Nat) (AP : Int × Int → Option Bool) (A1 : Option Addr) (n c1 : Nat) (cl : List Int) (A2 : Option Addr) (c2 : Nat) (hs : List Int) (at_ : Nat) (w : World) (hA : MapFn w r2 kvP vvB AP) (h1 : RInts w A1 n cl) (h2 : RInts w A2 n hs) (hat : at_ < n) :
    Calls Try.prog 65 #[.agg #[v0, v1, .map (some r2)], .slice A1 n c1, .slice A2 n c2, .int .i64 at_] w fun e w' => e = .returned (.bool (clashB AP cl hs at_)) ∧ Ext w w' := by
  have hbig := h1.big
  obtain ⟨g1, o1, rfl, k1⟩ := h1.cell (by omega)
  obtain ⟨g2, o2, rfl, k2⟩ := h2.cell (by omega)
  have hlk := fun (W : World) (hW : MapFn W r2 kvP vvB AP) (k : Nat) => lookup_fn keyP Try.underlying50 hW (apK cl k at_) zero4 false
  obtain ⟨W0, HW⟩ : ∃ W0, Hid (W0 = w.alloc (.cells #[v0, v1, .map (some r2)] 52)) := ⟨_, rfl⟩
  have hx0 : Ext w W0 := by rw [HW.out]; exact ext_alloc _ _
  have b2 : W0.cell? ⟨w.heap.size, 2, none⟩ = some (.map (some r2)) := by rw [HW.out]; exact (cells_of (heap_alloc_new w _) 2 rfl).1
  have hA0 := hA.same (hx0.block _ hA.lt)
  clear h1 h2
  go_enter Try.func65, Try.ntmps65
  go_wp2
  rw [← HW.out]
  clear HW
  go_loopw [9, 11] (fun _ t wr => ∃ k : Nat, k ≤ at_ ∧ t = .int .i64 k ∧ Hid (∀ i, i < k → clashK AP cl hs at_ i = false) ∧ Ext W0 wr) (fun _ t _ => at_ - (intOf t).toNat)
  case atStart => exact ⟨0, Nat.zero_le _, rfl, hid_zero, Below.refl _ _⟩
  case round =>
    obtain ⟨k, hk, rfl, hI, hb⟩ := hrel
    by_cases hlt : k < at_
    · have hxr := Ext.trans hx0 hb
      have x1 := Lib.hid (cell_ext hxr (k1 k (by omega)))
      have x2 := Lib.hid (cell_ext hxr (k1 at_ hat))
      have y1 := Lib.hid (cell_ext hxr (k2 k (by omega)))
      have y2 := Lib.hid (cell_ext hxr (k2 at_ hat))
      have bb2 := Lib.hid (cell_ext hb b2)
      have hMr := hA0.same (hb.block _ hA0.lt)
      have hlk1 := Lib.hid (fun (W : World) (hW : Ext wr.drew W) => hlk W (hMr.same (hW.block _ hMr.lt)) k)
      clear k1 k2 hlk hA hA0 hMr
      obtain ⟨key, hkey⟩ : ∃ key, Hid (key = apK cl k at_) := ⟨_, rfl⟩
      rw [← hkey.out] at hlk1
      by_cases heq : nth hs k = nth hs at_
      · have e1 : (nth hs k == nth hs at_) = true := beq_t heq
        have hv : clashK AP cl hs at_ k = (AP key).getD false := by unfold clashK; rw [hkey.out]; simp [heq]
        go_wp2
        refine wp_region_flow 23 [] (fun _ W => Ext wr.drew W) (by kernel_rfl) (by kernel_rfl) (Below.refl _ _) ?_
        have x1 : ∀ W, Ext wr.drew W → W.cell? ⟨g1, o1 + k, none⟩ = some (.int .i64 (nth cl k)) := fun W h => cell_ext h x1.out
        have x2 : ∀ W, Ext wr.drew W → W.cell? ⟨g1, o1 + at_, none⟩ = some (.int .i64 (nth cl at_)) := fun W h => cell_ext h x2.out
        have y1 : ∀ W, Ext wr.drew W → W.cell? ⟨g2, o2 + k, none⟩ = some (.int .i64 (nth hs k)) := fun W h => cell_ext h y1.out
        have y2 : ∀ W, Ext wr.drew W → W.cell? ⟨g2, o2 + at_, none⟩ = some (.int .i64 (nth hs at_)) := fun W h => cell_ext h y2.out
        have bb2 : ∀ W, Ext wr.drew W → W.cell? ⟨w.heap.size, 2, none⟩ = some (.map (some r2)) := fun W h => cell_ext h bb2.out
        have hkn : k < n := by omega
        simp only [List.take_succ_cons, List.take_zero, List.drop_succ_cons, List.drop_zero]
        refine flow_pure (.slice (some ⟨g2, o2, none⟩) n c2) rfl rfl (fun b W hW => by simp [go_sem]) ?_
        refine flow_pure (.int .i64 k) rfl rfl (fun b W hW => by simp [go_sem]) ?_
        refine flow_pure (.pointer (some ⟨g2, o2 + k, none⟩)) rfl rfl (fun b W hW => by simp [go_sem, hkn]) ?_
        refine flow_pure (.int .i64 (nth hs k)) rfl rfl (fun b W hW => by simp [go_sem, y1 W hW]) ?_
        refine flow_pure (.slice (some ⟨g2, o2, none⟩) n c2) rfl rfl (fun b W hW => by simp [go_sem]) ?_
        refine flow_pure (.int .i64 at_) rfl rfl (fun b W hW => by simp [go_sem]) ?_
        refine flow_pure (.pointer (some ⟨g2, o2 + at_, none⟩)) rfl rfl (fun b W hW => by simp [go_sem, hat]) ?_
        refine flow_pure (.int .i64 (nth hs at_)) rfl rfl (fun b W hW => by simp [go_sem, y2 W hW]) ?_
        refine flow_pure (.bool true) rfl rfl (fun b W hW => by simp [go_sem, heq]) ?_
        refine flow_pure (.bool true) rfl rfl (fun b W hW => by simp [go_sem]) ?_
        refine flow_want (.pointer (some ⟨w.heap.size, 2, none⟩)) (by kernel_rfl) rfl (fun b W hW => by simp [go_sem]) ?_
        refine flow_want (.map (some r2)) (by kernel_rfl) rfl (fun b W hW => by simp [go_sem, bb2 W hW]) ?_
        refine flow_want (.slice (some ⟨g1, o1, none⟩) n c1) (by kernel_rfl) rfl (fun b W hW => by simp [go_sem]) ?_
        refine flow_want (.int .i64 k) (by kernel_rfl) rfl (fun b W hW => by simp [go_sem]) ?_
        refine flow_want (.pointer (some ⟨g1, o1 + k, none⟩)) (by kernel_rfl) rfl (fun b W hW => by simp [go_sem, hkn]) ?_
        refine flow_want (.int .i64 (nth cl k)) (by kernel_rfl) rfl (fun b W hW => by simp [go_sem, x1 W hW]) ?_
        refine flow_want (.slice (some ⟨g1, o1, none⟩) n c1) (by kernel_rfl) rfl (fun b W hW => by simp [go_sem]) ?_
        refine flow_want (.int .i64 at_) (by kernel_rfl) rfl (fun b W hW => by simp [go_sem]) ?_
        refine flow_want (.pointer (some ⟨g1, o1 + at_, none⟩)) (by kernel_rfl) rfl (fun b W hW => by simp [go_sem, hat]) ?_
        refine flow_want (.int .i64 (nth cl at_)) (by kernel_rfl) rfl (fun b W hW => by simp [go_sem, x2 W hW]) ?_
        refine flow_call_want (kvP key) 50 #[.int .i64 (nth cl k), .int .i64 (nth cl at_)] (by kernel_rfl) rfl (fun b W hW => by simp [go_sem]) (fun b W hW => (ordered_any (nth cl k) (nth cl at_) W).mono (by rintro e W' ⟨rfl, he⟩; exact ⟨by rw [hkey.out]; rfl, Ext.trans hW he⟩)) ?_
        refine flow_want (.bool ((AP key).getD false)) (by kernel_rfl) rfl (fun b W hW => by
          have := hlk1.out W hW
          cases hk : AP key with
          | none => rw [hk] at this; simp only [Option.map_none, Option.getD_none, Bool.false_eq_true, if_false] at this; simp [go_sem, this]
          | some x => rw [hk] at this; simp only [Option.map_some, Option.getD_some, Bool.false_eq_true, if_false] at this; simp [go_sem, this]) ?_
        refine flow_pure (.bool ((AP key).getD false)) rfl rfl (fun b W hW => by simp [go_sem]) ?_
        refine flow_nil fun W hW => ?_
        have hfx : Ext W0 W := Ext.trans (Ext.trans hb (ext_drew _)) hW
        clear x1 x2 y1 y2 bb2 hlk1 hW
        cases hres : (AP key).getD false with
        | false =>
          rw [hres] at hv
          have HI := hid_succ hI hv
          clear hI hv
          go_frame
          go_wp2
          go_roundw
          case rel => exact ⟨k + 1, by omega, by go_num, HI, hfx⟩
          case measure => (simp [intOf]; omega)
        | true =>
          rw [hres] at hv
          have hfin := Lib.hid (clashB_hit hlt hv)
          clear hI hv
          go_frame
          go_wp2
          go_ret
          exact ⟨by rw [hfin.out]; rfl, Ext.trans hx0 hfx⟩
      · have e1 : (nth hs k == nth hs at_) = false := beq_f heq
        have hv : clashK AP cl hs at_ k = false := by unfold clashK; simp [heq]
        have HI := hid_succ hI hv
        have x1 := x1.out
        have x2 := x2.out
        have y1 := y1.out
        have y2 := y2.out
        have bb2 := bb2.out
        clear hI hv hlk1 hkey
        go_wp2
        go_quiet (fail)
        go_wp2
        go_roundw
        case rel => exact ⟨k + 1, by omega, by go_num, HI, Ext.trans hb (ext_drewN _ _)⟩
        case measure => (simp [intOf]; omega)
    · obtain rfl : k = at_ := by omega
      have hfin := Lib.hid (clashB_miss hI)
      clear hI k1 k2 hlk hA hA0
      go_wp2
      go_ret
      exact ⟨by rw [hfin.out]; rfl, Ext.trans hx0 hb⟩

end Go.Proofs.Ytiapdpbcnbgdmaa

import Derived.Test.YtiapdpbcnbgdmaaGm
import Derived.IntWalk
set_option linter.unusedVariables false
set_option linter.unusedSimpArgs false
namespace Go.Proofs.Ytiapdpbcnbgdmaa
open Go.RowKit

/-- the weights by the first k edges -/
def wTo (es : List E3) (same : List Int) : Nat → Int × Int → Option Int
  | 0, _ => none
  | k + 1, p =>
    if nth same (eth es k).a.toNat ≠ nth same (eth es k).b.toNat ∧ p = (min (nth same (eth es k).a.toNat) (nth same (eth es k).b.toNat), max (nth same (eth es k).a.toNat) (nth same (eth es k).b.toNat))
    then some ((wTo es same k p).getD 0 + (eth es k).w) else wTo es same k p
def aTo (ps : List (Int × Int)) (same : List Int) : Nat → Int × Int → Option Bool
  | 0, _ => none
  | k + 1, p =>
    if nth same (pth ps k).1.toNat ≠ nth same (pth ps k).2.toNat ∧ p = (min (nth same (pth ps k).1.toNat) (nth same (pth ps k).2.toNat), max (nth same (pth ps k).1.toNat) (nth same (pth ps k).2.toNat))
    then some true else aTo ps same k p


theorem wTo_same {es : List E3} {same : List Int} {k : Nat} {ea eb ew : Int} (hE : eth es k = ⟨ea, eb, ew⟩) (h : nth same ea.toNat = nth same eb.toNat) (p : Int × Int) : wTo es same (k + 1) p = wTo es same k p := by
  rw [wTo, hE]; simp [h]
theorem wTo_diff {es : List E3} {same : List Int} {k : Nat} {ea eb ew : Int} (hE : eth es k = ⟨ea, eb, ew⟩) (h : ¬ nth same ea.toNat = nth same eb.toNat) (p : Int × Int) :
    wTo es same (k + 1) p = if p = (min (nth same ea.toNat) (nth same eb.toNat), max (nth same ea.toNat) (nth same eb.toNat)) then some ((wTo es same k p).getD 0 + ew) else wTo es same k p := by
  rw [wTo, hE]; simp [h]
theorem aTo_same {ps : List (Int × Int)} {same : List Int} {k : Nat} {ea eb : Int} (hE : pth ps k = (ea, eb)) (h : nth same ea.toNat = nth same eb.toNat) (p : Int × Int) : aTo ps same (k + 1) p = aTo ps same k p := by
  rw [aTo, hE]; simp [h]
theorem aTo_diff {ps : List (Int × Int)} {same : List Int} {k : Nat} {ea eb : Int} (hE : pth ps k = (ea, eb)) (h : ¬ nth same ea.toNat = nth same eb.toNat) (p : Int × Int) :
    aTo ps same (k + 1) p = if p = (min (nth same ea.toNat) (nth same eb.toNat), max (nth same ea.toNat) (nth same eb.toNat)) then some true else aTo ps same k p := by
  rw [aTo, hE]; simp [h]
theorem wTo_range {es : List E3} {same : List Int} {n : Nat} (he : ∀ j, j < n → -1000000000 ≤ (eth es j).w ∧ (eth es j).w ≤ 1000000000) (p : Int × Int) : ∀ k, k ≤ n → -(1000000000 * (k : Int)) ≤ (wTo es same k p).getD 0 ∧ (wTo es same k p).getD 0 ≤ 1000000000 * (k : Int) := by
  intro k
  induction k with
  | zero => intro _; simp [wTo]
  | succ k ih =>
    intro hk
    have h1 := ih (by omega)
    have h2 := he k (by omega)
    rw [wTo]
    split
    · simp only [Option.getD_some]; omega
    · omega
theorem wrap64_id {x : Int} (h : -9223372036854775808 ≤ x ∧ x ≤ 9223372036854775807) : wrap64 x = x := by unfold wrap64; omega

/-- what holds between two rounds: b the heap's size at the call -/
structure GSt (w : World) (A1 : Option Addr) (m c1 : Nat) (M1 : Int × Int → Option Int) (M2 : Int × Int → Option Bool) (wr : World) : Prop where
  b0 : ∃ v0 v1 v2, wr.heap[w.heap.size]? = some (.cells #[v0, v1, v2] 52 (0, 0))
  b3 : wr.heap[w.heap.size + 1 + 1 + 1]? = some (.cells #[.slice A1 m c1, .map (some (w.heap.size + 1)), .map (some (w.heap.size + 1 + 1))] 52 (0, 0))
  m1 : MapFn wr (w.heap.size + 1) kvP vvI M1
  m2 : MapFn wr (w.heap.size + 1 + 1) kvP vvB M2
  ext : Ext w wr
theorem GSt.lt {w : World} {A1 m c1 M1 M2 wr} (h : GSt w A1 m c1 M1 M2 wr) : w.heap.size + 1 + 1 + 1 < wr.heap.size := (Array.getElem?_eq_some_iff.1 h.b3).1
theorem GSt.keep {w : World} {A1 m c1 M1 M2 wr} (h : GSt w A1 m c1 M1 M2 wr) {wx : World} (hx : Ext wr wx) : GSt w A1 m c1 M1 M2 wx := by
  have hl := h.lt
  exact ⟨let ⟨a, b, c, e⟩ := h.b0; ⟨a, b, c, (hx.block _ (by omega)).trans e⟩, (hx.block _ (by omega)).trans h.b3, h.m1.same (hx.block _ (by omega)), h.m2.same (hx.block _ (by omega)), Ext.trans h.ext hx⟩
theorem GSt.turn1 {w : World} {A1 m c1 M1 M2 wr} (h : GSt w A1 m c1 M1 M2 wr) {W0 W' : World} (hx : Ext wr W0) (hg : W0.grownBy W' (some (w.heap.size + 1))) {M1' : Int × Int → Option Int} (hm : MapFn W' (w.heap.size + 1) kvP vvI M1') : GSt w A1 m c1 M1' M2 W' := by
  have h := h.keep hx
  have hl := h.lt
  have hk : ∀ k, k < W0.heap.size → k ≠ w.heap.size + 1 → W'.heap[k]? = W0.heap[k]? := fun k hk hne => hg.block k hk (fun e => hne (Option.some.inj e))
  exact ⟨let ⟨a, b, c, e⟩ := h.b0; ⟨a, b, c, (hk _ (by omega) (by omega)).trans e⟩, (hk _ (by omega) (by omega)).trans h.b3, hm, h.m2.same (hk _ (by omega) (by omega)), h.ext.grown hg h.ext.size (fun k e => by cases e; omega)⟩
theorem GSt.turn2 {w : World} {A1 m c1 M1 M2 wr} (h : GSt w A1 m c1 M1 M2 wr) {W0 W' : World} (hx : Ext wr W0) (hg : W0.grownBy W' (some (w.heap.size + 1 + 1))) {M2' : Int × Int → Option Bool} (hm : MapFn W' (w.heap.size + 1 + 1) kvP vvB M2') : GSt w A1 m c1 M1 M2' W' := by
  have h := h.keep hx
  have hl := h.lt
  have hk : ∀ k, k < W0.heap.size → k ≠ w.heap.size + 1 + 1 → W'.heap[k]? = W0.heap[k]? := fun k hk hne => hg.block k hk (fun e => hne (Option.some.inj e))
  exact ⟨let ⟨a, b, c, e⟩ := h.b0; ⟨a, b, c, (hk _ (by omega) (by omega)).trans e⟩, (hk _ (by omega) (by omega)).trans h.b3, h.m1.same (hk _ (by omega) (by omega)), hm, h.ext.grown hg h.ext.size (fun k e => by cases e; omega)⟩
theorem GSt.congr1 {w : World} {A1 m c1 M1 M1' M2 wr} (h : GSt w A1 m c1 M1 M2 wr) (e : ∀ k, M1 k = M1' k) : GSt w A1 m c1 M1' M2 wr := ⟨h.b0, h.b3, h.m1.congr e, h.m2, h.ext⟩
theorem GSt.congr2 {w : World} {A1 m c1 M1 M2 M2' wr} (h : GSt w A1 m c1 M1 M2 wr) (e : ∀ k, M2 k = M2' k) : GSt w A1 m c1 M1 M2' wr := ⟨h.b0, h.b3, h.m1, h.m2.congr e, h.ext⟩
theorem cells_of {wr : World} {b : Nat} {cs : Array Value} {t : TypeId} (h : wr.heap[b]? = some (.cells cs t (0, 0))) (i : Nat) {v : Value} (hv : cs[i]? = some v) : wr.cell? ⟨b, i, none⟩ = some v ∧ wr.frozen? ⟨b, i, none⟩ = false := by
  unfold World.cell? World.frozen?
  simp [h, hv]
theorem GSt.ends {w : World} {A1 m c1 M1 M2 wr} (h : GSt w A1 m c1 M1 M2 wr) (v0 v1 v2 : Value) (wx : World) (hx : wx = ((wr.setCell ⟨w.heap.size, 0, none⟩ v0).setCell ⟨w.heap.size, 1, none⟩ v1).setCell ⟨w.heap.size, 2, none⟩ v2) :
    MapFn wx (w.heap.size + 1) kvP vvI M1 ∧ MapFn wx (w.heap.size + 1 + 1) kvP vvB M2 ∧ Ext w wx := by
  subst hx
  refine ⟨h.m1.same ?_, h.m2.same ?_, ((h.ext.setCell (p := ⟨w.heap.size, 0, none⟩) (Nat.le_refl _) _).setCell (p := ⟨w.heap.size, 1, none⟩) (Nat.le_refl _) _).setCell (p := ⟨w.heap.size, 2, none⟩) (Nat.le_refl _) _⟩
  · rw [Below.heap_setCell _ _ _ _ (by dsimp only; omega), Below.heap_setCell _ _ _ _ (by dsimp only; omega), Below.heap_setCell _ _ _ _ (by dsimp only; omega)]
  · rw [Below.heap_setCell _ _ _ _ (by dsimp only; omega), Below.heap_setCell _ _ _ _ (by dsimp only; omega), Below.heap_setCell _ _ _ _ (by dsimp only; omega)]
theorem heap_old (w : World) (o : Obj) (k : Nat) (h : k < w.heap.size) : (w.alloc o).heap[k]? = w.heap[k]? := Below.heap_alloc w o k h
theorem GSt.start (w : World) (A1 : Option Addr) (m c1 : Nat) (v0 v1 v2 : Value) : GSt w A1 m c1 (fun _ => none) (fun _ => none)
    ((((w.alloc (.cells #[v0, v1, v2] 52)).alloc (.map #[] 0)).alloc (.map #[] 0)).alloc (.cells #[.slice A1 m c1, .map (some (w.heap.size + 1)), .map (some (w.heap.size + 1 + 1))] 52)) := by
  have s1 : (w.alloc (.cells #[v0, v1, v2] 52)).heap.size = w.heap.size + 1 := by simp
  have s2 : ((w.alloc (.cells #[v0, v1, v2] 52)).alloc (.map #[] 0)).heap.size = w.heap.size + 1 + 1 := by simp
  have s3 : (((w.alloc (.cells #[v0, v1, v2] 52)).alloc (.map #[] 0)).alloc (.map #[] 0)).heap.size = w.heap.size + 1 + 1 + 1 := by simp
  have a0 := heap_alloc_new w (.cells #[v0, v1, v2] 52)
  have a1 := made_fn (w.alloc (.cells #[v0, v1, v2] 52)) kvP vvI
  have a2 := made_fn ((w.alloc (.cells #[v0, v1, v2] 52)).alloc (.map #[] 0)) kvP vvB
  have a3 := heap_alloc_new (((w.alloc (.cells #[v0, v1, v2] 52)).alloc (.map #[] 0)).alloc (.map #[] 0)) (.cells #[.slice A1 m c1, .map (some (w.heap.size + 1)), .map (some (w.heap.size + 1 + 1))] 52)
  rw [s1] at a1
  rw [s2] at a2
  rw [s3] at a3
  refine ⟨⟨v0, v1, v2, ?_⟩, a3, ?_, ?_, ?_⟩
  · rw [heap_old _ _ _ (by simp; omega), heap_old _ _ _ (by simp; omega), heap_old _ _ _ (by simp)]; exact a0
  · exact a1.same ((heap_old _ _ _ (by simp)).trans (heap_old _ _ _ (by simp)))
  · exact a2.same (heap_old _ _ _ (by simp))
  · exact Ext.trans (Ext.trans (Ext.trans (ext_alloc _ _) (ext_alloc _ _)) (ext_alloc _ _)) (ext_alloc _ _)

set_option maxHeartbeats 1000000 in
theorem gather_any (A : Option Addr) (n c : Nat) (es : List E3) (A1 : Option Addr) (m c1 : Nat) (same : List Int) (A2 : Option Addr) (q c2 : Nat) (ps : List (Int × Int)) (w : World)
    (h : REdges w A n es) (h1 : RInts w A1 m same) (h2 : RPairs w A2 q ps) (hv : ValidP same) (he : ∀ j, j < n → inR m (eth es j) ∧ -1000000000 ≤ (eth es j).w ∧ (eth es j).w ≤ 1000000000) (hn : n ≤ 20000)
    (hp : ∀ j, j < q → 0 ≤ (pth ps j).1 ∧ (pth ps j).1 < m ∧ 0 ≤ (pth ps j).2 ∧ (pth ps j).2 < m) :
    Calls Try.prog 28 #[.slice A n c, .slice A1 m c1, .slice A2 q c2] w fun e w' => ∃ r1 r2, e = .returned (.agg #[.slice A1 m c1, .map (some r1), .map (some r2)]) ∧ MapFn w' r1 kvP vvI (wTo es same n) ∧ MapFn w' r2 kvP vvB (aTo ps same q) ∧ Ext w w' := by
  have hmm := @run_makeMap Try.prog
  have hbig := h.big
  have hbig1 := h1.big
  go_enter Try.func28, Try.ntmps28
  go_wp2
  go_loopw [9, 10, 11, 22] (fun _ _ _ t wr => ∃ k : Nat, k ≤ n ∧ t = .int .i64 k ∧ GSt w A1 m c1 (wTo es same k) (fun _ => none) wr) (fun _ _ _ t _ => n - (intOf t).toNat)
  case atStart => exact ⟨0, Nat.zero_le _, rfl, GSt.start _ _ _ _ _ _ _⟩
  case round =>
    obtain ⟨k, hk, rfl, G⟩ := hrel
    by_cases hlt : k < n
    · obtain ⟨b, off, rfl, hcell⟩ := h.cell (by omega)
      have hk1 := cell_ext G.ext (hcell k hlt).1
      have hk2 := cell_ext G.ext (hcell k hlt).2.1
      have hk3 := cell_ext G.ext (hcell k hlt).2.2
      have hbl : b < wr.heap.size := World.block_lt_of_cell? _ _ hk1
      obtain ⟨hr, hw1, hw2⟩ := he k hlt
      obtain ⟨ea, eb, ew, hE⟩ : ∃ ea eb ew, Hid (eth es k = ⟨ea, eb, ew⟩) := ⟨_, _, _, rfl⟩
      rw [hE.out] at hk1 hk2 hk3 hr hw1 hw2
      obtain ⟨e1, e2, e3, e4⟩ := hr
      dsimp only at hk1 hk2 hk3 hw1 hw2 e1 e2 e3 e4
      obtain ⟨b', off', rfl, hcell'⟩ := h1.cell (by omega)
      have hd1 := cell_ext G.ext (hcell' ea.toNat (by omega))
      have hd2 := cell_ext G.ext (hcell' eb.toNat (by omega))
      have hbl' : b' < wr.heap.size := World.block_lt_of_cell? _ _ hd1
      have hrange := fun p => wTo_range (same := same) (fun j hj => (he j hj).2) p k (by omega)
      clear hcell hcell' he hp h h1 h2 hv
      by_cases hab : nth same ea.toNat = nth same eb.toNat
      · have hne := bne_f hab
        have HAB := Lib.hid hab
        clear hab
        go_wp2
        go_quiet (fail)
        go_wp2
        go_roundw
        case rel => exact ⟨k + 1, by omega, by go_num, (G.keep (ext_ad _ _ _)).congr1 fun p => (wTo_same hE.out HAB.out p).symm⟩
        case measure => (simp [intOf]; omega)
      · have hne := bne_t hab
        go_wp2
        go_quiet (fail)
        go_wp2
        obtain ⟨l, cl, hM, hg⟩ := G.m1
        have hrng := hrange (min (nth same ea.toNat) (nth same eb.toNat), max (nth same ea.toNat) (nth same eb.toNat))
        rw [← hg] at hrng
        have hB3 := G.b3
        have hlt0 := G.lt
        obtain ⟨W0, HW⟩ : ∃ W0, Hid (W0 = (wr.alloc (Obj.cells #[Value.int IntKind.i64 ea, Value.int IntKind.i64 eb, Value.int IntKind.i64 ew] 40)).drewN nq) := ⟨_, rfl⟩
        have hExt : Ext wr W0 := by rw [HW.out]; exact ext_ad _ _ _
        have hbox : W0.cell? ⟨wr.heap.size, 2, none⟩ = some (.int .i64 ew) := by rw [HW.out]; unfold World.cell?; rw [World.heap_drewN, heap_alloc_new]; rfl
        rw [← HW.out]
        clear HW
        obtain ⟨key, hkey⟩ : ∃ key : Int × Int, Hid (key = (min (nth same ea.toNat) (nth same eb.toNat), max (nth same ea.toNat) (nth same eb.toNat))) := ⟨_, rfl⟩
        rw [← hkey.out] at hrng
        obtain ⟨v0, hv0⟩ : ∃ v0, Hid ((getL l key).getD 0 = v0) := ⟨_, rfl⟩
        rw [hv0.out] at hrng
        have hbm : W0.cell? ⟨w.heap.size + 1 + 1 + 1, 1, none⟩ = some (.map (some (w.heap.size + 1))) := by
          unfold World.cell?; rw [hExt.block _ hlt0, hB3]; rfl
        refine wp_region_flow 11 [9] (fun k => GCls W0 (w.heap.size + 1) l cl key (k == 1)) (by kernel_rfl) (by kernel_rfl) (GCls.start ((hExt.block _ (by omega)).trans hM.heap)) ?_
        simp only [List.take_succ_cons, List.take_zero, List.drop_succ_cons, List.drop_zero]
        refine flow_pure (.pointer (some ⟨w.heap.size + 1 + 1 + 1, 1, none⟩)) rfl rfl (fun b W hW => by simp [go_sem]) ?_
        refine flow_pure (.map (some (w.heap.size + 1))) rfl rfl (fun b W hW => by simp [go_sem, hW.cell hbm (by dsimp only; omega)]) ?_
        refine flow_pure (.int .i64 (nth same ea.toNat)) rfl rfl (fun b W hW => by simp [go_sem]) ?_
        refine flow_pure (.int .i64 (nth same eb.toNat)) rfl rfl (fun b W hW => by simp [go_sem]) ?_
        refine flow_call (kvP key) 50 #[.int .i64 (nth same ea.toNat), .int .i64 (nth same eb.toNat)] rfl rfl (fun b W hW => by simp [go_sem]) (fun b W hW => (ordered_any (nth same ea.toNat) (nth same eb.toNat) W).mono (by rintro e W' ⟨rfl, he⟩; exact ⟨by rw [hkey.out], hW.ext he⟩)) ?_
        refine flow_pure (.int .i64 v0) rfl rfl (fun b W hW => by have hlk := hW.lookup hM.tidy Try.underlying49; rw [hv0.out] at hlk; simp [go_sem, hlk]) ?_
        refine flow_pure (.pointer (some ⟨wr.heap.size, 2, none⟩)) rfl rfl (fun b W hW => by simp [go_sem]) ?_
        refine flow_pure (.int .i64 ew) rfl rfl (fun b W hW => by simp [go_sem, hW.cell hbox (by dsimp only; omega)]) ?_
        refine flow_pure (.int .i64 (v0 + ew)) rfl rfl (fun b W hW => by simp [go_sem]; exact IntWalk.i64_in _ (by omega)) ?_
        refine flow_mark 0 (.tuple #[.int .i64 v0, goInt (stampL l key cl)]) rfl rfl (fun W hW => by
          obtain ⟨W', h1, h2⟩ := hW.entry hM.tidy Try.underlying49
          rw [hv0.out] at h1
          exact ⟨W', by simp [go_sem, h1], h2⟩) ?_
        refine flow_pure (goInt (stampL l key cl)) rfl rfl (fun b W hW => by simp [go_sem]) ?_
        refine flow_nil fun W hW => ?_
        go_frame
        obtain ⟨W', hst, hM', hg'⟩ := GCls.store hM.tidy (T := 49) hW (v0 + ew)
        simp only [goInt] at hst
        refine wpList_skip rfl (w' := W') (by simp [go_sem, hst]) ?_
        go_frame
        go_wp2
        go_roundw
        case rel => exact ⟨k + 1, by omega, by go_num, (G.turn1 hExt hg' hM').congr1 fun p => by rw [wTo_diff hE.out hab, ← hkey.out, ← hg]; by_cases e : p = key <;> simp [e, hv0.out]⟩
        case measure => (simp [intOf]; omega)
    · obtain rfl : k = n := by omega
      clear hlt hk he h hbig
      have hbig2 := h2.big
      go_wp2
      go_loopw [13, 14, 15, 53] (fun _ _ _ t wr => ∃ j : Nat, j ≤ q ∧ t = .int .i64 j ∧ GSt w A1 m c1 (wTo es same k) (aTo ps same j) wr) (fun _ _ _ t _ => q - (intOf t).toNat)
      case atStart => exact ⟨0, Nat.zero_le _, rfl, G.congr2 fun p => rfl⟩
      case round =>
        obtain ⟨j, hj, rfl, G⟩ := hrel
        by_cases hlt : j < q
        · obtain ⟨b, off, rfl, hcell⟩ := h2.cell (by omega)
          have hk1 := cell_ext G.ext (hcell j hlt).1
          have hk2 := cell_ext G.ext (hcell j hlt).2
          have hbl : b < wr.heap.size := World.block_lt_of_cell? _ _ hk1
          obtain ⟨e1, e2, e3, e4⟩ := hp j hlt
          obtain ⟨ea, eb, hE⟩ : ∃ ea eb, Hid (pth ps j = (ea, eb)) := ⟨_, _, rfl⟩
          rw [hE.out] at hk1 hk2 e1 e2 e3 e4
          dsimp only at hk1 hk2 e1 e2 e3 e4
          obtain ⟨b', off', rfl, hcell'⟩ := h1.cell (by omega)
          have hd1 := cell_ext G.ext (hcell' ea.toNat (by omega))
          have hd2 := cell_ext G.ext (hcell' eb.toNat (by omega))
          have hbl' : b' < wr.heap.size := World.block_lt_of_cell? _ _ hd1
          clear hcell hcell' hp h1 h2 hv
          by_cases hab : nth same ea.toNat = nth same eb.toNat
          · have hne := bne_f hab
            have HAB := Lib.hid hab
            clear hab
            go_wp2
            go_quiet (fail)
            go_wp2
            go_roundw
            case rel => exact ⟨j + 1, by omega, by go_num, (G.keep (ext_ad _ _ _)).congr2 fun p => (aTo_same hE.out HAB.out p).symm⟩
            case measure => (simp [intOf]; omega)
          · have hne := bne_t hab
            go_wp2
            go_quiet (fail)
            go_wp2
            have hB3 := G.b3
            have hlt0 := G.lt
            obtain ⟨W0, HW⟩ : ∃ W0, Hid (W0 = (wr.alloc (Obj.cells #[Value.int IntKind.i64 ea, Value.int IntKind.i64 eb] 42)).drewN nq) := ⟨_, rfl⟩
            have hExt : Ext wr W0 := by rw [HW.out]; exact ext_ad _ _ _
            rw [← HW.out]
            clear HW
            obtain ⟨key, hkey⟩ : ∃ key : Int × Int, Hid (key = (min (nth same ea.toNat) (nth same eb.toNat), max (nth same ea.toNat) (nth same eb.toNat))) := ⟨_, rfl⟩
            have hbm : W0.cell? ⟨w.heap.size + 1 + 1 + 1, 2, none⟩ = some (.map (some (w.heap.size + 1 + 1))) := by
              unfold World.cell?; rw [hExt.block _ hlt0, hB3]; rfl
            refine wp_region_flow 5 [] (fun _ W => Ext W0 W) (by kernel_rfl) (by kernel_rfl) ⟨rfl, rfl, rfl, Nat.le_refl _, fun _ _ => rfl⟩ ?_
            simp only [List.take_succ_cons, List.take_zero, List.drop_succ_cons, List.drop_zero]
            refine flow_pure (.pointer (some ⟨w.heap.size + 1 + 1 + 1, 2, none⟩)) rfl rfl (fun b W hW => by simp [go_sem]) ?_
            refine flow_pure (.map (some (w.heap.size + 1 + 1))) rfl rfl (fun b W hW => by simp [go_sem, cell_ext hW hbm]) ?_
            refine flow_pure (.int .i64 (nth same ea.toNat)) rfl rfl (fun b W hW => by simp [go_sem]) ?_
            refine flow_pure (.int .i64 (nth same eb.toNat)) rfl rfl (fun b W hW => by simp [go_sem]) ?_
            refine flow_call (kvP key) 50 #[.int .i64 (nth same ea.toNat), .int .i64 (nth same eb.toNat)] rfl rfl (fun b W hW => by simp [go_sem]) (fun b W hW => (ordered_any (nth same ea.toNat) (nth same eb.toNat) W).mono (by rintro e W' ⟨rfl, he⟩; exact ⟨by rw [hkey.out], Ext.trans hW he⟩)) ?_
            refine flow_nil fun W hW => ?_
            go_frame
            obtain ⟨W', hst, hM', hg', _⟩ := update_fn keyP Try.underlying50 ((G.keep hExt).keep hW).m2 key true
            refine wpList_skip rfl (w' := W') (by simp [go_sem, hst]) ?_
            go_frame
            go_wp2
            go_roundw
            case rel => exact ⟨j + 1, by omega, by go_num, ((G.keep hExt).turn2 hW hg' hM').congr2 fun p => by rw [aTo_diff hE.out hab, ← hkey.out]⟩
            case measure => (simp [intOf]; omega)
        · obtain rfl : j = q := by omega
          obtain ⟨kk0, _⟩ := cells_of G.b3 0 rfl
          obtain ⟨kk1, _⟩ := cells_of G.b3 1 rfl
          obtain ⟨kk2, _⟩ := cells_of G.b3 2 rfl
          obtain ⟨v0, v1, v2, hb0⟩ := G.b0
          obtain ⟨d0, f0⟩ := cells_of hb0 0 rfl
          obtain ⟨d1, f1⟩ := cells_of hb0 1 rfl
          obtain ⟨d2, f2⟩ := cells_of hb0 2 rfl
          have hlt0 := G.lt
          go_wp2
          obtain ⟨p1, p2, p3⟩ := G.ends (.slice A1 m c1) (.map (some (w.heap.size + 1))) (.map (some (w.heap.size + 1 + 1))) _ rfl
          refine bodyPost_ret (v := .agg #[.slice A1 m c1, .map (some (w.heap.size + 1)), .map (some (w.heap.size + 1 + 1))]) ?_ rfl ⟨_, _, rfl, p1, p2, p3⟩
          simp [results, Try.results28, go_sem, d0, d1, d2]

end Go.Proofs.Ytiapdpbcnbgdmaa

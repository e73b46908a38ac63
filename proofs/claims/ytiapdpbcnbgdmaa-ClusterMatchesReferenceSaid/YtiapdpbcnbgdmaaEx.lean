import Derived.Test.YtiapdpbcnbgdmaaIt
set_option linter.unusedVariables false
set_option linter.unusedSimpArgs false
namespace Go.Proofs.Ytiapdpbcnbgdmaa
open Go.RowKit

attribute [local go_sem] Oper.semAt_some
section
variable (W : Int × Int → Option Int) (cl x : List Int)
def keptIn (i : Nat) : Nat → Int
  | 0 => 0
  | k + 1 => if nth x i = nth x k then keptIn i k + (W (nth cl k, nth cl i)).getD 0 else keptIn i k
def keptTo : Nat → Int
  | 0 => 0
  | i + 1 => keptTo i + keptIn W cl x i i
def bestStep (n : Nat) : Option (List Int × Int) → List Int → Option (List Int × Int)
  | none, x => some (x, -keptTo W cl x n)
  | some (b, l), x => if -keptTo W cl x n < l then some (x, -keptTo W cl x n) else some (b, l)
def bestOf (n : Nat) (xs : List (List Int)) : Option (List Int × Int) := xs.foldl (bestStep W cl n) none
end
theorem bestOf_snoc {W : Int × Int → Option Int} {cl : List Int} {n : Nat} {pre : List (List Int)} {x : List Int} : bestOf W cl n (pre ++ [x]) = bestStep W cl n (bestOf W cl n pre) x := by
  unfold bestOf; rw [List.foldl_append]; rfl
theorem keptIn_le {W : Int × Int → Option Int} {cl x : List Int} {B : Int} (hB : 0 ≤ B) (hW : ∀ p, -B ≤ (W p).getD 0 ∧ (W p).getD 0 ≤ B) (i : Nat) : ∀ k : Nat, -(k * B) ≤ keptIn W cl x i k ∧ keptIn W cl x i k ≤ k * B := by
  intro k
  induction k with
  | zero => simp [keptIn]
  | succ k ih =>
    have h1 := hW (nth cl k, nth cl i)
    have h2 : ((k + 1 : Nat) : Int) * B = k * B + B := by rw [Int.natCast_add]; simp [Int.add_mul]
    rw [keptIn, h2]
    split <;> omega
theorem keptTo_le {W : Int × Int → Option Int} {cl x : List Int} {B : Int} (hB : 0 ≤ B) (hW : ∀ p, -B ≤ (W p).getD 0 ∧ (W p).getD 0 ≤ B) : ∀ i : Nat, i ≤ 8 → -(i * (8 * B)) ≤ keptTo W cl x i ∧ keptTo W cl x i ≤ i * (8 * B) := by
  intro i
  induction i with
  | zero => intro _; simp [keptTo]
  | succ i ih =>
    intro hi
    have h1 := ih (by omega)
    have h3 := keptIn_le (cl := cl) (x := x) hB hW i i
    have h2 : ((i + 1 : Nat) : Int) * (8 * B) = i * (8 * B) + 8 * B := by rw [Int.natCast_add]; simp [Int.add_mul]
    have h4 : (i : Int) * B ≤ 8 * B := Int.mul_le_mul_of_nonneg_right (by omega) hB
    rw [keptTo, h2]
    omega
theorem own_keep {W W' : World} {X : Nat → Prop} {base n : Nat} {v : Value} {xs : List Value} (h : W.ownsRow base 3 1 v n xs) (K : Kept X W W') (hX : ∀ k, base ≤ k → ¬ X k) : W'.ownsRow base 3 1 v n xs := by
  refine ⟨h.1, ?_⟩
  rcases h.2 with h' | ⟨g', cap', cur, h', hb, hk, h1⟩
  · exact .inl h'
  · exact .inr ⟨g', cap', cur, h', hb, (K.block g' (Array.getElem?_eq_some_iff.1 hk).1 (hX g' hb)).trans hk, h1⟩

/-- between two rounds -/
structure XSt (WT : Int × Int → Option Int) (cl : List Int) (n bb bl lo : Nat) (w0 : World) (pre : List (List Int)) (W : World) : Prop where
  best : ∃ v, W.heap[bb]? = some (.cells #[v] 23 (0, 0)) ∧ (match bestOf WT cl n pre with
    | none => v = .slice none 0 0 ∧ W.heap[bl]? = some (.cells #[.int .i64 0] 3 (0, 0))
    | some (x, l) => v ≠ .slice none 0 0 ∧ W.ownsRow lo 3 1 v n (ints x) ∧ W.heap[bl]? = some (.cells #[.int .i64 l] 3 (0, 0)))
  ext : Ext w0 W
theorem XSt.keep {WT : Int × Int → Option Int} {cl : List Int} {n bb bl lo : Nat} {w0 : World} {pre : List (List Int)} {W W' : World} (S : XSt WT cl n bb bl lo w0 pre W) {X : Nat → Prop} (K : Kept X W W') (h : ¬ X bb ∧ ¬ X bl) (hlo : ∀ k, lo ≤ k → ¬ X k) (hw : ∀ k, X k → w0.heap.size ≤ k) : XSt WT cl n bb bl lo w0 pre W' := by
  obtain ⟨v, hb, hm⟩ := S.best
  refine ⟨⟨v, (K.block _ (Array.getElem?_eq_some_iff.1 hb).1 h.1).trans hb, ?_⟩, K.ext S.ext hw⟩
  revert hm
  cases bestOf WT cl n pre with
  | none => exact fun ⟨h1, h2⟩ => ⟨h1, (K.block _ (Array.getElem?_eq_some_iff.1 h2).1 h.2).trans h2⟩
  | some p => exact fun ⟨h1, h2, h3⟩ => ⟨h1, own_keep h2 K hlo, (K.block _ (Array.getElem?_eq_some_iff.1 h3).1 h.2).trans h3⟩

theorem XSt.boxes {WT : Int × Int → Option Int} {cl : List Int} {n bb bl lo : Nat} {w0 : World} {pre : List (List Int)} {W : World} (S : XSt WT cl n bb bl lo w0 pre W) : (∃ v, Boxed W bb 23 v) ∧ ∃ u, Boxed W bl 3 u := by
  obtain ⟨v, hb, hm⟩ := S.best
  refine ⟨⟨v, hb⟩, ?_⟩
  revert hm
  cases bestOf WT cl n pre with
  | none => exact fun ⟨_, h⟩ => ⟨_, h⟩
  | some p => exact fun ⟨_, _, h⟩ => ⟨_, h⟩
theorem XSt.take {WT : Int × Int → Option Int} {cl : List Int} {n bb bl lo : Nat} {w0 : World} {pre : List (List Int)} {W W3 : World} (S : XSt WT cl n bb bl lo w0 pre W) {x : List Int} {v' : Value} (hx : Ext W W3) (hrow : W3.ownsRow lo 3 1 v' n (ints x)) (hv : v' ≠ .slice none 0 0)
    (hne : bb ≠ bl) (hb : w0.heap.size ≤ bb ∧ w0.heap.size ≤ bl ∧ bb < lo ∧ bl < lo) (hst : bestStep WT cl n (bestOf WT cl n pre) x = some (x, -keptTo WT cl x n)) :
    XSt WT cl n bb bl lo w0 (pre ++ [x]) ((W3.setCell ⟨bb, 0, none⟩ v').setCell ⟨bl, 0, none⟩ (.int .i64 (-keptTo WT cl x n))) ∧ Kept (fun k => k = bb ∨ k = bl) W ((W3.setCell ⟨bb, 0, none⟩ v').setCell ⟨bl, 0, none⟩ (.int .i64 (-keptTo WT cl x n))) := by
  obtain ⟨⟨v, b1⟩, ⟨u, b2⟩⟩ := S.boxes
  have b1' : Boxed W3 bb 23 v := (hx.block _ b1.lt).trans b1
  have b2' : Boxed W3 bl 3 u := (hx.block _ b2.lt).trans b2
  have c1 := ((b1'.set v').other hne (.int .i64 (-keptTo WT cl x n)))
  have c2 := (b2'.other (Ne.symm hne) v').set (.int .i64 (-keptTo WT cl x n))
  have K : Kept (fun k => k = bb ∨ k = bl) W3 ((W3.setCell ⟨bb, 0, none⟩ v').setCell ⟨bl, 0, none⟩ (.int .i64 (-keptTo WT cl x n))) :=
    (Kept.of_grown (grownBy_setCell' _ _ _) (.inl rfl)).trans (.of_grown (grownBy_setCell' _ _ _) (.inr rfl))
  have KW := (Kept.of_ext (X := fun k => k = bb ∨ k = bl) hx).trans K
  refine ⟨⟨⟨v', c1, ?_⟩, KW.ext S.ext (fun k hk => by omega)⟩, KW⟩
  rw [bestOf_snoc, hst]
  exact ⟨hv, own_keep hrow K (fun k hk => by omega), c2⟩

/-- The best heads, in a row of the call's own; or nil. -/
def BestRow (w : World) (base n : Nat) (v : Value) : Option (List Int × Int) → Prop
  | none => v = .slice none 0 0
  | some p => w.ownsRow base 3 1 v n (ints p.1)

set_option maxHeartbeats 4000000 in
theorem exact_any {w : World} {A1 : Option Addr} {n c1 : Nat} {cl : List Int} {v0 : Value} {r1 r2 : Nat} {WT : Int × Int → Option Int} {AP : Int × Int → Option Bool} (h1 : RInts w A1 n cl) (hM : MapFn w r1 kvP vvI WT) (hA : MapFn w r2 kvP vvB AP) (hn : n ≤ 8) (hn0 : 0 < n)
    (hW : ∀ p, -20000000000000 ≤ (WT p).getD 0 ∧ (WT p).getD 0 ≤ 20000000000000) :
    Calls Try.prog 34 #[.agg #[v0, .map (some r1), .map (some r2)], .slice A1 n c1] w fun e w' => ∃ v, e = .returned v ∧ Ext w w' ∧ BestRow w' w.heap.size n v (bestOf WT cl n (enum AP cl n [])) := by
  obtain ⟨ba, oa, rfl, hc⟩ := h1.cell hn0
  have hba : ba < w.heap.size := World.block_lt_of_cell? _ _ (hc 0 hn0)
  have hr1 := hM.lt
  have hr2 := hA.lt
  -- the world where the loop's function is made
  obtain ⟨W0, HW⟩ : ∃ W0, Hid (W0 = (((w.alloc (.cells #[v0, .map (some r1), .map (some r2)] 52)).alloc (.cells #[.slice (some ⟨ba, oa, none⟩) n c1] 23)).alloc (.cells #[.slice none 0 0] 23)).alloc (.cells #[.int .i64 0] 3)) := ⟨_, rfl⟩
  have hx0 : Ext w W0 := by rw [HW.out]; exact Ext.trans (Ext.trans (Ext.trans (ext_alloc _ _) (ext_alloc _ _)) (ext_alloc _ _)) (ext_alloc _ _)
  have hs0 : W0.heap.size = w.heap.size + 1 + 1 + 1 + 1 := by rw [HW.out]; simp
  have q0 : W0.heap[w.heap.size]? = some (.cells #[v0, .map (some r1), .map (some r2)] 52 (0, 0)) := by
    rw [HW.out, heap_old _ _ _ (by simp; omega), heap_old _ _ _ (by simp; omega), heap_old _ _ _ (by simp)]; exact heap_alloc_new w _
  have q1 : W0.heap[w.heap.size + 1]? = some (.cells #[.slice (some ⟨ba, oa, none⟩) n c1] 23 (0, 0)) := by
    rw [HW.out, heap_old _ _ _ (by simp), heap_old _ _ _ (by simp)]
    have := heap_alloc_new (w.alloc (.cells #[v0, .map (some r1), .map (some r2)] 52)) (.cells #[.slice (some ⟨ba, oa, none⟩) n c1] 23)
    rwa [World.size_alloc] at this
  have q2 : W0.heap[w.heap.size + 1 + 1]? = some (.cells #[.slice none 0 0] 23 (0, 0)) := by
    rw [HW.out, heap_old _ _ _ (by simp)]
    have := heap_alloc_new ((w.alloc (.cells #[v0, .map (some r1), .map (some r2)] 52)).alloc (.cells #[.slice (some ⟨ba, oa, none⟩) n c1] 23)) (.cells #[.slice none 0 0] 23)
    simpa using this
  have q3 : W0.heap[w.heap.size + 1 + 1 + 1]? = some (.cells #[.int .i64 0] 3 (0, 0)) := by
    rw [HW.out]
    have := heap_alloc_new (((w.alloc (.cells #[v0, .map (some r1), .map (some r2)] 52)).alloc (.cells #[.slice (some ⟨ba, oa, none⟩) n c1] 23)).alloc (.cells #[.slice none 0 0] 23)) (.cells #[.int .i64 0] 3)
    simpa using this
  have hpar := partitions_any (w := W0) (c1 := c1) (v0 := v0) (v1 := .map (some r1)) (h1.ext hx0) (hA.same (hx0.block _ hr2)) (by omega) hn0
  have z0 := (cells_of q0 0 rfl).1
  have z1 := (cells_of q0 1 rfl).1
  have z2 := (cells_of q0 2 rfl).1
  have z3 := (cells_of q1 0 rfl).1
  rw [HW.out] at z0 z1 z2 z3
  refine (callsIn_wide (n := 3)).1 ?_
  refine callsIn_of_wp_marks Try.func34 rfl trivial ?_ rfl
  simp only [Try.ntmps34, List.size_toArray, List.length_cons, List.length_nil, Nat.reduceAdd, Nat.reduceSub, Array.replicate_succ, Array.replicate_zero, List.push_toArray, List.append_toArray, List.nil_append, List.cons_append]
  refine wpIn_wide.2 ?_
  go_wp2_with (go_at_call 53; rw [← HW.out]; refine hpar.mono ?_; rintro e w1 ⟨B1, B3, B4, g, rfl, FP, hx1⟩)
  have hs1 := hx1.size
  obtain ⟨hs, hrowg⟩ := FP.row
  have hgl := own_lt hrowg
  obtain ⟨f1, f3, f4, f5, f6, f7⟩ := FP.ne
  have p0 := (hx1.block _ (by omega)).trans q0
  have p1 := (hx1.block _ (by omega)).trans q1
  have p2 := (hx1.block _ (by omega)).trans q2
  have p3 := (hx1.block _ (by omega)).trans q3
  have hxw1 := Ext.trans hx0 hx1
  have S0 : ∀ W, Ext w1 W → W.heap.size = w1.heap.size + 1 + 1 → XSt WT cl n (w.heap.size + 1 + 1) (w.heap.size + 1 + 1 + 1) (w1.heap.size + 1 + 1) w [] W := fun W hx _ =>
    ⟨⟨_, (hx.block _ (by omega)).trans p2, rfl, (hx.block _ (by omega)).trans p3⟩, Ext.trans hxw1 hx⟩
  have HRC := Lib.hid (h1.ext hxw1)
  have HM1 := Lib.hid (hM.same (hxw1.block _ hr1))
  clear z0 z1 z2 z3 hpar q0 q1 q2 q3
  refine wp_rounds (gf := 63) (lb := #[.pointer (some ⟨B1, 0, none⟩), .pointer (some ⟨B3, 0, none⟩), .pointer (some ⟨B4, 0, none⟩)]) rfl (enters_of Try.func63 (by kernel_rfl) rfl) #[.slice (some ⟨g, 0, none⟩) n n] rfl
    (fun pre W => XSt WT cl n (w.heap.size + 1 + 1) (w.heap.size + 1 + 1 + 1) (w1.heap.size + 1 + 1) w pre W ∧ Kept (fun k => k = g ∨ k = w.heap.size + 1 + 1 ∨ k = w.heap.size + 1 + 1 + 1 ∨ w1.heap.size ≤ k) w1 W)
    (fun x W => W.ownsRow W0.heap.size 3 1 (.slice (some ⟨g, 0, none⟩) n n) n (ints x)) (fun k => k = g) (fun k => k = w.heap.size + 1 + 1 ∨ k = w.heap.size + 1 + 1 + 1) (fun k h => by omega) (fun k h => by omega) (enum AP cl n [])
    (fun pre A B h K => ⟨h.1.keep K ⟨by omega, by omega⟩ (fun k hk => by omega) (fun k hk => by omega), h.2.trans (K.mono fun k _ hk => by omega)⟩)
    (fun x A B h K => own_same h (K.block g (own_lt h).1 (by omega)))
    (fun J' W1 hJ hY hxx hl h0 => iter_any FP (by omega) _ (fun k hk => by omega) ⟨by omega, fun b off e => by cases e; omega⟩ J' W1 hJ hY hxx hl h0)
    ?a1 ?assign ?body (fun W hx hsz => ⟨S0 W hx hsz, .of_ext hx⟩) ?done
  case assign =>
    intro W K hK
    gi_wp2
    exact hK
  case body =>
    rintro pre x W ⟨S, KW⟩ hrow hl
    have c2 := KW.cell (cells_of p0 0 rfl).1 (by show ¬ _; simp; omega)
    have c2' := KW.cell (cells_of p0 1 rfl).1 (by show ¬ _; simp; omega)
    have c2'' := KW.cell (cells_of p0 2 rfl).1 (by show ¬ _; simp; omega)
    have c3 := KW.cell (cells_of p1 0 rfl).1 (by show ¬ _; simp; omega)
    have HC : Hid (∀ j, j < n → W.cell? ⟨ba, oa + j, none⟩ = some (.int .i64 (nth cl j))) := fun j hj => KW.cell (cell_ext hxw1 (hc j hj)) (by show ¬ _; simp; omega)
    have HMW := Lib.hid (HM1.out.same (KW.block _ HM1.out.lt (by show ¬ _; simp; omega)))
    gi_wp2
    gi_loopw [8, 9, 10, 17] (fun t8 _ _ t17 wr => ∃ i : Nat, i ≤ n ∧ t17 = .int .i64 i ∧ t8 = .int .i64 (keptTo WT cl x i) ∧ Ext W wr) (fun _ _ _ t17 _ => n - (intOf t17).toNat)
    case atStart => exact ⟨0, Nat.zero_le _, rfl, rfl, Below.refl _ _⟩
    case round =>
      obtain ⟨i, hi, rfl, rfl, hxi⟩ := hrel
      by_cases hlt : i < n
      · gi_wp2
        gi_loopw [8, 10, 21] (fun t8 _ t21 wr => ∃ k : Nat, k ≤ i ∧ t21 = .int .i64 k ∧ t8 = .int .i64 (keptTo WT cl x i + keptIn WT cl x i k) ∧ Ext W wr) (fun _ _ t21 _ => i - (intOf t21).toNat)
        case atStart => exact ⟨0, Nat.zero_le _, rfl, by simp [keptIn], hxi⟩
        case round =>
          obtain ⟨k, hk, rfl, rfl, hxk⟩ := hrel
          by_cases hlk : k < i
          · have hkn : k < n := by omega
            have y1 : wr.drew.cell? ⟨g, i, none⟩ = some (.int .i64 (nth x i)) := cell_ext hxk (own_at hrow i hlt).1
            have y2 : wr.drew.cell? ⟨g, k, none⟩ = some (.int .i64 (nth x k)) := cell_ext hxk (own_at hrow k hkn).1
            gi_wp2
            by_cases heq : nth x i = nth x k
            · have hks : keptIn WT cl x i (k + 1) = keptIn WT cl x i k + (WT (nth cl k, nth cl i)).getD 0 := by rw [keptIn, if_pos heq]
              refine flow_in0 [] (fun _ V => V = wr.drew) (by kernel_rfl) (by kernel_rfl) (by kernel_rfl) rfl ?_
              refine flow_pure (.slice (some ⟨g, 0, none⟩) n n) rfl rfl (fun b V hV => by cases hV; simp [go_sem]) ?_
              refine flow_pure (.int .i64 i) rfl rfl (fun b V hV => by cases hV; simp [go_sem]) ?_
              refine flow_pure (.pointer (some ⟨g, i, none⟩)) rfl rfl (fun b V hV => by cases hV; simp [go_sem, hlt]) ?_
              refine flow_pure (.int .i64 (nth x i)) rfl rfl (fun b V hV => by cases hV; simp [go_sem, y1]) ?_
              refine flow_pure (.slice (some ⟨g, 0, none⟩) n n) rfl rfl (fun b V hV => by cases hV; simp [go_sem]) ?_
              refine flow_pure (.int .i64 k) rfl rfl (fun b V hV => by cases hV; simp [go_sem]) ?_
              refine flow_pure (.pointer (some ⟨g, k, none⟩)) rfl rfl (fun b V hV => by cases hV; simp [go_sem, hkn]) ?_
              refine flow_pure (.int .i64 (nth x k)) rfl rfl (fun b V hV => by cases hV; simp [go_sem, y2]) ?_
              refine flow_pure (.bool true) rfl rfl (fun b V hV => by cases hV; simp [go_sem, heq]) ?_
              refine flow_nil fun V hV => ?_
              obtain rfl : V = wr.drew := hV
              go_frame
              gi_wp2
              have d2 : wr.drew.drew.cell? ⟨w.heap.size, 1, none⟩ = some (.map (some r1)) := cell_ext hxk c2'
              have d3 : wr.drew.drew.cell? ⟨w.heap.size + 1, 0, none⟩ = some (.slice (some ⟨ba, oa, none⟩) n c1) := cell_ext hxk c3
              have d4 : wr.drew.drew.cell? ⟨ba, oa + k, none⟩ = some (.int .i64 (nth cl k)) := cell_ext hxk (HC.out k hkn)
              have d5 : wr.drew.drew.cell? ⟨ba, oa + i, none⟩ = some (.int .i64 (nth cl i)) := cell_ext hxk (HC.out i hlt)
              have d6 : (Instr.lookup 49 (.map (some r1)) (kvP (nth cl k, nth cl i)) false).run Try.prog wr.drew.drew = .ok (.int .i64 ((WT (nth cl k, nth cl i)).getD 0)) wr.drew.drew := by
                have := lookup_fn keyP Try.underlying49 (HMW.out.same (w' := wr.drew.drew) (hxk.block _ HMW.out.lt)) (nth cl k, nth cl i) zero3 false
                cases hk : WT (nth cl k, nth cl i) with
                | none => rw [hk] at this; simpa using this
                | some y => rw [hk] at this; simpa using this
              have hwr : IntKind.i64.wrap (keptTo WT cl x i + keptIn WT cl x i k + (WT (nth cl k, nth cl i)).getD 0) = keptTo WT cl x i + keptIn WT cl x i k + (WT (nth cl k, nth cl i)).getD 0 := by
                have e1 := keptTo_le (W := WT) (cl := cl) (x := x) (B := 20000000000000) (by omega) hW i (by omega)
                have e2 := keptIn_le (W := WT) (cl := cl) (x := x) (B := 20000000000000) (by omega) hW i k
                have e3 := hW (nth cl k, nth cl i)
                exact IntWalk.i64_in _ (by omega)
              refine flow_in1 14 [] (fun _ V => V = wr.drew.drew) (by kernel_rfl) (by kernel_rfl) (by kernel_rfl) rfl rfl rfl ?_
              simp only [List.take_succ_cons, List.take_zero]
              refine flow_pure (.int .i64 (keptTo WT cl x i + keptIn WT cl x i k)) rfl rfl (fun b V hV => by cases hV; simp [go_sem]) ?_
              refine flow_pure (.pointer (some ⟨w.heap.size, 1, none⟩)) rfl rfl (fun b V hV => by cases hV; simp [go_sem]) ?_
              refine flow_pure (.map (some r1)) rfl rfl (fun b V hV => by cases hV; simp [go_sem, d2]) ?_
              refine flow_pure (.slice (some ⟨ba, oa, none⟩) n c1) rfl rfl (fun b V hV => by cases hV; simp [go_sem, d3]) ?_
              refine flow_pure (.int .i64 k) rfl rfl (fun b V hV => by cases hV; simp [go_sem]) ?_
              refine flow_pure (.pointer (some ⟨ba, oa + k, none⟩)) rfl rfl (fun b V hV => by cases hV; simp [go_sem, hkn]) ?_
              refine flow_pure (.int .i64 (nth cl k)) rfl rfl (fun b V hV => by cases hV; simp [go_sem, d4]) ?_
              refine flow_pure (.slice (some ⟨ba, oa, none⟩) n c1) rfl rfl (fun b V hV => by cases hV; simp [go_sem, d3]) ?_
              refine flow_pure (.int .i64 i) rfl rfl (fun b V hV => by cases hV; simp [go_sem]) ?_
              refine flow_pure (.pointer (some ⟨ba, oa + i, none⟩)) rfl rfl (fun b V hV => by cases hV; simp [go_sem, hlt]) ?_
              refine flow_pure (.int .i64 (nth cl i)) rfl rfl (fun b V hV => by cases hV; simp [go_sem, d5]) ?_
              refine flow_pure (kvP (nth cl k, nth cl i)) rfl rfl (fun b V hV => by cases hV; simp [go_sem]) ?_
              refine flow_pure (.int .i64 ((WT (nth cl k, nth cl i)).getD 0)) rfl rfl (fun b V hV => by cases hV; simp [go_sem, d6]) ?_
              refine flow_pure (.int .i64 (keptTo WT cl x i + keptIn WT cl x i k + (WT (nth cl k, nth cl i)).getD 0)) rfl rfl (fun b V hV => by cases hV; simp [go_sem]; exact hwr) ?_
              refine flow_nil fun V hV => ?_
              obtain rfl : V = wr.drew.drew := hV
              refine ⟨.int .i64 (keptTo WT cl x i + keptIn WT cl x i k + (WT (nth cl k, nth cl i)).getD 0), by simp [go_sem], ?_⟩
              go_frame
              gi_wp2
              refine ⟨⟨k + 1, by omega, by go_num, by rw [hks, Int.add_assoc], Ext.trans hxk ⟨rfl, rfl, rfl, Nat.le_refl _, fun _ _ => rfl⟩⟩, ?_⟩
              simp [intOf]; omega
            · have hks : keptIn WT cl x i (k + 1) = keptIn WT cl x i k := by rw [keptIn, if_neg heq]
              refine flow_in0 [] (fun _ V => V = wr.drew) (by kernel_rfl) (by kernel_rfl) (by kernel_rfl) rfl ?_
              refine flow_pure (.slice (some ⟨g, 0, none⟩) n n) rfl rfl (fun b V hV => by cases hV; simp [go_sem]) ?_
              refine flow_pure (.int .i64 i) rfl rfl (fun b V hV => by cases hV; simp [go_sem]) ?_
              refine flow_pure (.pointer (some ⟨g, i, none⟩)) rfl rfl (fun b V hV => by cases hV; simp [go_sem, hlt]) ?_
              refine flow_pure (.int .i64 (nth x i)) rfl rfl (fun b V hV => by cases hV; simp [go_sem, y1]) ?_
              refine flow_pure (.slice (some ⟨g, 0, none⟩) n n) rfl rfl (fun b V hV => by cases hV; simp [go_sem]) ?_
              refine flow_pure (.int .i64 k) rfl rfl (fun b V hV => by cases hV; simp [go_sem]) ?_
              refine flow_pure (.pointer (some ⟨g, k, none⟩)) rfl rfl (fun b V hV => by cases hV; simp [go_sem, hkn]) ?_
              refine flow_pure (.int .i64 (nth x k)) rfl rfl (fun b V hV => by cases hV; simp [go_sem, y2]) ?_
              refine flow_pure (.bool false) rfl rfl (fun b V hV => by cases hV; simp [go_sem, heq]) ?_
              refine flow_nil fun V hV => ?_
              obtain rfl : V = wr.drew := hV
              go_frame
              gi_wp2
              refine ⟨⟨k + 1, by omega, by go_num, by rw [hks], Ext.trans hxk (ext_drew _)⟩, ?_⟩
              simp [intOf]; omega
          · obtain rfl : k = i := by omega
            gi_wp2
            refine ⟨⟨k + 1, by omega, by go_num, rfl, hxk⟩, ?_⟩
            simp [intOf]; omega
      · obtain rfl : i = n := by omega
        have hxl : x.length = i := by have := hrow.1; simpa using this
        obtain ⟨⟨vb, b1⟩, ⟨vl, b2⟩⟩ := S.boxes
        have b1w : wr.cell? ⟨w.heap.size + 1 + 1, 0, none⟩ = some vb := cell_ext hxi b1.cell
        have b2w : wr.cell? ⟨w.heap.size + 1 + 1 + 1, 0, none⟩ = some vl := cell_ext hxi b2.cell
        have hreads : RInts wr (some ⟨g, 0, none⟩) i x := ⟨hxl, by omega, fun _ => ⟨g, 0, rfl, fun j hj => by rw [Nat.zero_add]; exact cell_ext hxi (own_at hrow j hj).1⟩⟩
        have hcl := clone_any (some ⟨g, 0, none⟩) i i x wr hreads (by omega)
        have hneq := fun w a n c => Lib.run_eql_slice_nil (P := Try.prog) w 23 3 a n c 0 0 Try.underlying23
        have hneg : IntKind.i64.wrap (-keptTo WT cl x i) = -keptTo WT cl x i := by
          have e1 := keptTo_le (W := WT) (cl := cl) (x := x) (B := 20000000000000) (by omega) hW i (by omega)
          exact IntWalk.i64_in _ (by omega)
        obtain ⟨v, hb, hm⟩ := S.best
        obtain rfl : v = vb := by
          have e : (some (Obj.cells #[v] 23 (0, 0))) = some (Obj.cells #[vb] 23 (0, 0)) := hb.symm.trans b1
          simpa using e
        have hu : W.heap[w.heap.size + 1 + 1 + 1]? = some (.cells #[vl] 3 (0, 0)) := b2
        cases hbo : bestOf WT cl i pre with
        | none =>
          rw [hbo] at hm
          obtain ⟨rfl, h2⟩ := hm
          have hst : bestStep WT cl i (bestOf WT cl i pre) x = some (x, -keptTo WT cl x i) := by rw [hbo]; rfl
          gi_wp2
          refine ⟨trivial, rfl, ?_⟩
          refine (CallsIn.inRound _ (callsIn_wide.2 hcl)).mono ?_
          rintro e W3 ⟨v', rfl, hrow3, hx3, -, hv3⟩
          have hv3 := hv3 (by simp)
          rw [hxl] at hrow3
          have hT := S.take (Ext.trans hxi hx3) (own_base hrow3 (by have := hxi.size; omega)) hv3 (by omega) (by omega) hst
          have f1 : Boxed W3 (w.heap.size + 1 + 1) 23 _ := (hx3.block _ (by have := hxi.size; have := b1.lt; omega)).trans ((hxi.block _ b1.lt).trans b1)
          have f2 : Boxed W3 (w.heap.size + 1 + 1 + 1) 3 _ := (hx3.block _ (by have := hxi.size; have := b2.lt; omega)).trans ((hxi.block _ b2.lt).trans b2)
          have f1c := f1.cell
          have f1f := f1.frozen
          have f2' := f2.other (B' := w.heap.size + 1 + 1) (by omega) v'
          have f2c := f2'.cell
          have f2f := f2'.frozen
          have HT := Lib.hid hT
          obtain ⟨kep, hkep⟩ : ∃ kep, kep = keptTo WT cl x i := ⟨_, rfl⟩
          have hsv : v'.oneCell' = true := by rcases own_cells hrow3 with rfl | ⟨_, _, _, rfl, _⟩ <;> rfl
          rcases own_cells hrow3 with rfl | ⟨gv, cv, _, rfl, -⟩
          · exact absurd rfl hv3
          clear hT hrow3 hv3 hcl hreads S b1 b2 hb hu f1 f2 f2'
          gi_wp2
          exact ⟨HT.out.2, HT.out.1, KW.trans (HT.out.2.mono fun k _ hk => by omega)⟩
        | some p =>
          obtain ⟨xb, l⟩ := p
          rw [hbo] at hm
          obtain ⟨h1', h2, h3⟩ := hm
          obtain rfl : vl = .int .i64 l := by
            have e : (some (Obj.cells #[vl] 3 (0, 0))) = some (Obj.cells #[.int .i64 l] 3 (0, 0)) := hu.symm.trans h3
            simpa using e
          obtain ⟨gb, cb, rfl⟩ : ∃ gb cb, v = .slice (some ⟨gb, 0, none⟩) i cb := by
            rcases own_cells h2 with h | ⟨gb, cb, _, h, _⟩
            · exact absurd h h1'
            · exact ⟨gb, cb, h⟩
          by_cases hbet : -keptTo WT cl x i < l
          · have hst : bestStep WT cl i (bestOf WT cl i pre) x = some (x, -keptTo WT cl x i) := by rw [hbo]; simp [bestStep, hbet]
            gi_wp2
            refine ⟨trivial, rfl, ?_⟩
            refine (CallsIn.inRound _ (callsIn_wide.2 hcl)).mono ?_
            rintro e W3 ⟨v', rfl, hrow3, hx3, -, hv3⟩
            have hv3 := hv3 (by simp)
            rw [hxl] at hrow3
            have hT := S.take (Ext.trans hxi hx3) (own_base hrow3 (by have := hxi.size; omega)) hv3 (by omega) (by omega) hst
            have f1 : Boxed W3 (w.heap.size + 1 + 1) 23 _ := (hx3.block _ (by have := hxi.size; have := b1.lt; omega)).trans ((hxi.block _ b1.lt).trans b1)
            have f2 : Boxed W3 (w.heap.size + 1 + 1 + 1) 3 _ := (hx3.block _ (by have := hxi.size; have := b2.lt; omega)).trans ((hxi.block _ b2.lt).trans b2)
            have f1c := f1.cell
            have f1f := f1.frozen
            have f2' := f2.other (B' := w.heap.size + 1 + 1) (by omega) v'
            have f2c := f2'.cell
            have f2f := f2'.frozen
            have HT := Lib.hid hT
            obtain ⟨kep, hkep⟩ : ∃ kep, kep = keptTo WT cl x i := ⟨_, rfl⟩
            have hsv : v'.oneCell' = true := by rcases own_cells hrow3 with rfl | ⟨_, _, _, rfl, _⟩ <;> rfl
            rcases own_cells hrow3 with rfl | ⟨gv, cv, _, rfl, -⟩
            · exact absurd rfl hv3
            clear hT hrow3 hv3 hcl hreads S b1 b2 hb hu f1 f2 f2'
            gi_wp2
            exact ⟨HT.out.2, HT.out.1, KW.trans (HT.out.2.mono fun k _ hk => by omega)⟩
          · have hst : bestStep WT cl i (bestOf WT cl i pre) x = bestOf WT cl i pre := by rw [hbo]; simp [bestStep, hbet]
            have S2 : XSt WT cl i (w.heap.size + 1 + 1) (w.heap.size + 1 + 1 + 1) (w1.heap.size + 1 + 1) w (pre ++ [x]) wr := by
              have S3 := S.keep (X := fun _ => False) (.of_ext hxi) ⟨fun h => h, fun h => h⟩ (fun k _ h => h) (fun k h => h.elim)
              obtain ⟨q1, q2⟩ := S3
              exact ⟨by rw [bestOf_snoc, hst]; exact q1, q2⟩
            have HT := Lib.hid S2
            clear S2 hcl hreads S b1 b2 hb hu h2 h3
            gi_wp2
            exact ⟨.of_ext hxi, HT.out, KW.trans (.of_ext hxi)⟩
  case done =>
    rintro W ⟨S, KW⟩ hD
    obtain ⟨v, hb, hm⟩ := S.best
    have hbc : W.cell? ⟨w.heap.size + 1 + 1, 0, none⟩ = some v := (show Boxed W (w.heap.size + 1 + 1) 23 v from hb).cell
    have hDl := (Array.getElem?_eq_some_iff.1 hD).1
    have KD : Kept (fun k => k = w1.heap.size) W (W.putObj w1.heap.size (.deferred none)) := Kept.putObj _ hDl rfl
    have hfin : Ext w (W.putObj w1.heap.size (.deferred none)) ∧ BestRow (W.putObj w1.heap.size (.deferred none)) w.heap.size n v (bestOf WT cl n (enum AP cl n [])) := by
      refine ⟨KD.ext S.ext (fun k hk => by omega), ?_⟩
      revert hm
      cases bestOf WT cl n (enum AP cl n []) with
      | none => exact fun h => h.1
      | some p => exact fun h => own_base (own_keep h.2.1 KD (fun k hk => by omega)) (by omega)
    have HF := Lib.hid hfin
    clear hm hfin S hb
    go_wp2
    refine ⟨by simp, .inl ⟨_, _, rfl, run_takeDeferred hD, ?_⟩⟩
    exact ⟨_, results_tmp rfl _ _ _, v, rfl, HF.out⟩

end Go.Proofs.Ytiapdpbcnbgdmaa

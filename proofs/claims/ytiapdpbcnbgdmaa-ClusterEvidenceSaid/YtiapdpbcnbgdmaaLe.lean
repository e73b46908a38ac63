import Derived.Test.YtiapdpbcnbgdmaaPo
import Derived.Test.YtiapdpbcnbgdmaaHd
import Derived.Test.YtiapdpbcnbgdmaaAp
set_option linter.unusedVariables false
set_option linter.unusedSimpArgs false
namespace Go.Proofs.Ytiapdpbcnbgdmaa
open Go.RowKit

theorem i16_range {x : Int} (h : (Lit.int .i16 x).wf = true) : -32768 ≤ x ∧ x ≤ 32767 := by
  have h1 : IntKind.i16.min ≤ x ∧ x ≤ IntKind.i16.max := by simpa [Lit.wf] using h
  exact ⟨h1.1, h1.2⟩
theorem twice_cons {part : Int} {es : List E3} {k : Nat} (h : k < es.length) : twice part (es.drop k) = twice part (es.drop (k + 1)) ++ [⟨(eth es k).b, (eth es k).a, (eth es k).w - part⟩, ⟨(eth es k).a, (eth es k).b, part⟩] := by
  rw [List.drop_eq_getElem_cons h]
  have e : es[k] = eth es k := by simp [eth, List.getD_eq_getElem?_getD, List.getElem?_eq_getElem h]
  rw [e]
  unfold twice
  rw [List.reverse_cons, List.flatMap_append]
  rfl
theorem swapped_cons {ps : List (Int × Int)} {k : Nat} (h : k < ps.length) : swapped (ps.drop k) = swapped (ps.drop (k + 1)) ++ [((pth ps k).2, (pth ps k).1)] := by
  rw [List.drop_eq_getElem_cons h]
  have e : ps[k] = pth ps k := by simp [pth, List.getD_eq_getElem?_getD, List.getElem?_eq_getElem h]
  rw [e]
  unfold swapped
  rw [List.reverse_cons, List.map_append]
  rfl
theorem down {k : Nat} (hk : k ≤ 1000) : Value.int .i64 (wrap64 (((k + 1 : Nat) : Int) - 1 - 1)) = .int .i64 ((k : Int) - 1) := by
  rw [wrap64_id (by omega)]
  congr 1
  omega
/-- the worlds of a region, one behind the other -/
def Chain (Vs : List World) (b : Nat) (W : World) : Prop := Vs[b]? = some W
theorem flow_mark_call {P : Program} {ops : Array Oper} {C : Nat → World → Prop} {ms : List Nat} {Q : Act → Prop} {k : Nat} {o : Oper} {rest : List Oper} {a : Act} (j : Nat) (v : Value) (f : FuncId) (args : Array Value) (hg : o.guard = none) (hk : ms.idxOf? k = some j) (h : ∀ W, C j W → (execOp a.eval o).run P W = .ok (.enter f args) W)
    (hc : ∀ W, C j W → Calls P f args W fun e W' => e = .returned v ∧ C (j + 1) W') (hr : wpFlow P ops C ms Q (k + 1) rest (a.put o.dst v)) : wpFlow P ops C ms Q k (o :: rest) a :=
  ⟨v, .inl ⟨by simp [Region.wanted, hg], by rw [hk]; intro W hW; rw [h W hW]; exact hc W hW⟩, hr⟩
theorem edge_exact (a b x : Int) (w : World) : Calls Try.prog 23 #[.int .i64 a, .int .i64 b, .int .i64 x] w fun e w' => e = .returned (.agg #[.int .i64 a, .int .i64 b, .int .i64 x]) ∧ w' = w.alloc (.cells #[.int .i64 a, .int .i64 b, .int .i64 x] 40) := by
  have hnew := heap_alloc_new w (.cells #[.int .i64 a, .int .i64 b, .int .i64 x] 40)
  obtain ⟨d0, f0⟩ := cells_of hnew 0 rfl
  obtain ⟨d1, f1⟩ := cells_of hnew 1 rfl
  obtain ⟨d2, f2⟩ := cells_of hnew 2 rfl
  go_enter Try.func23, Try.ntmps23
  go_wp2
  refine bodyPost_ret (v := .agg #[.int .i64 a, .int .i64 b, .int .i64 x]) ?_ rfl ⟨rfl, rfl⟩
  simp [results, Try.results23, go_sem, d0, d1, d2]
set_option maxHeartbeats 4000000 in
theorem lawEvidence_any (A : Option Addr) (n c : Nat) (es : List E3) (A1 : Option Addr) (m c1 : Nat) (same : List Int) (A2 : Option Addr) (q c2 : Nat) (ps : List (Int × Int)) (part : Int) (w : World)
    (h : REdges w A n es) (h1 : RInts w A1 m same) (h2 : RPairs w A2 q ps) (hp : (Lit.int .i16 part).wf = true) :
    Calls Try.prog 6 #[.slice A n c, .slice A1 m c1, .slice A2 q c2, .int .i16 part] w fun e w' => e = .returned (.bool true) ∧ Ext w w' := by
  have hf := fun W => few_any A n c A1 m c1 A2 q c2 30 W h.big h1.big h2.big
  have hh := head_any
  have hpr := i16_range hp
  have hb0 := h.big
  have hb1 := h1.big
  have hb2 := h2.big
  by_cases hfew : (m : Int) ≤ 30 ∧ n ≤ 80 ∧ q ≤ 40
  · simp only [decide_eq_true hfew] at hf
    obtain ⟨f1, f2, f3⟩ := hfew
    by_cases h40 : n ≤ 40
    · have hel := h.len
      have hpl := h2.len
      go_enter Try.func6, Try.ntmps6
      go_wp2_with (first
        | (go_at_call 10; refine (hh _).mono ?_; rintro e w1 ⟨rfl, hx1⟩)
        | (go_at_call 11; refine (hf _).mono ?_; rintro e w2 ⟨rfl, rfl⟩))
      have HF := Lib.hid hf
      have HH := Lib.hid hh
      have HEL := Lib.hid hel
      have HPL := Lib.hid hpl
      clear hf hh hel hpl
      go_loopw [10, 11] (fun s t wr => ∃ k : Nat, k ≤ n ∧ t = .int .i64 ((k : Int) - 1) ∧ wr.ownsRow w1.heap.size 40 3 s (twice part (es.drop k)).length (ecells (twice part (es.drop k))) ∧ Hid (∀ j, k ≤ j → j < n → -999960000 ≤ (eth es j).w ∧ (eth es j).w ≤ 999960000) ∧ Ext w1 wr) (fun _ t _ => (intOf t + 1).toNat)
      case atStart => exact ⟨n, Nat.le_refl _, rfl, by rw [List.drop_of_length_le (by rw [HEL.out]; exact Nat.le_refl _)]; exact World.ownsRow_nil _ _ _ _, Lib.hid (fun j h1 h2 => by omega), ⟨rfl, rfl, rfl, Nat.le_refl _, fun _ _ => rfl⟩⟩
      case round =>
        obtain ⟨k, hk, rfl, hrow, hP, hx⟩ := hrel
        rcases Nat.eq_zero_or_pos k with rfl | hk0
        · rw [List.drop_zero] at hrow
          have hwe : ∀ e ∈ es, -999960000 ≤ e.w ∧ e.w ≤ 999960000 := fun e he => by
            obtain ⟨j, hj, e1⟩ := List.getElem_of_mem he
            have hj' : j < n := by rw [← HEL.out]; exact hj
            have := hP.out j (Nat.zero_le _) hj'
            have ej : eth es j = e := by simp [eth, List.getD_eq_getElem?_getD, List.getElem?_eq_getElem hj, e1]
            rwa [ej] at this
          have hgt := good_twice (part := part) (es := es) (same := same) (ps := ps) hpr (by rw [HEL.out]; exact h40) hwe
          have hl2 : (twice part es).length ≤ 80 := by rw [twice_len, HEL.out]; omega
          obtain ⟨es2, hes2⟩ : ∃ es2, Hid (twice part es = es2) := ⟨_, rfl⟩
          obtain ⟨n2, hn2⟩ : ∃ n2, Hid (es2.length = n2) := ⟨_, rfl⟩
          rw [hes2.out] at hrow hl2
          rw [hn2.out] at hl2
          obtain ⟨A5, c5, hv5, hr5⟩ := own_edges hrow (by rw [hn2.out]; omega)
          rw [hn2.out] at hv5 hr5
          subst hv5
          have HG := Lib.hid hgt
          have HW := Lib.hid hwe
          clear hrow hP hwe hgt
          go_wp2
          go_loopw [13, 14] (fun s t wx => ∃ k : Nat, k ≤ q ∧ t = .int .i64 ((k : Int) - 1) ∧ wx.ownsRow wr.heap.size 42 2 s (swapped (ps.drop k)).length (pcells (swapped (ps.drop k))) ∧ Ext wr wx) (fun _ t _ => (intOf t + 1).toNat)
          case atStart => exact ⟨q, Nat.le_refl _, rfl, by rw [List.drop_of_length_le (by rw [HPL.out]; exact Nat.le_refl _)]; exact World.ownsRow_nil _ _ _ _, ⟨rfl, rfl, rfl, Nat.le_refl _, fun _ _ => rfl⟩⟩
          case round =>
            obtain ⟨k, hk, rfl, hrow, hxx⟩ := hrel
            rcases Nat.eq_zero_or_pos k with rfl | hk0
            · rw [List.drop_zero] at hrow
              obtain ⟨ps2, hps2⟩ : ∃ ps2, Hid (swapped ps = ps2) := ⟨_, rfl⟩
              have hlp : (swapped ps).length = q := by unfold swapped; rw [List.length_map, List.length_reverse, HPL.out]
              rw [hps2.out] at hrow hlp
              obtain ⟨A6, c6, hv6, hr6⟩ := own_pairs hrow (by omega)
              rw [hlp] at hv6 hr6
              subst hv6
              have hg2 := HG.out
              rw [hes2.out, hps2.out] at hg2
              have hx3 := Ext.trans hx1 (Ext.trans hx hxx)
              have hr5 := hr5.ext hxx
              have hcA := cluster_any A n c es A1 m c1 same A2 q c2 ps wr (h.ext hx3) (h1.ext hx3) (h2.ext hx3) (by omega) (by omega)
              have hcB := fun W (hW : Ext wr W) => cluster_any A5 n2 c5 es2 A1 m c1 same A6 q c6 ps2 W (hr5.ext hW) (h1.ext (Ext.trans hx3 hW)) (hr6.ext hW) (by omega) hl2
              clear hrow hlp
              cases hg : goodB es same ps with
              | false =>
                rw [hg] at hg2
                simp only [hg, hg2, Bool.false_eq_true, if_false] at hcA hcB
                have hin := fun W => ints_any none 0 0 [] none 0 0 [] W ⟨rfl, by omega, fun h => absurd h (by omega)⟩ ⟨rfl, by omega, fun h => absurd h (by omega)⟩
                simp only [decide_true] at hin
                go_wp2_with (first
                  | (go_at_call 12; refine (hcB _ hx4).mono ?_; rintro e w4 ⟨v, k, rfl, hx5, rfl, rfl⟩)
                  | (go_at_call 12; refine hcA.mono ?_; clear hcA; rintro e w3 ⟨v, k, rfl, hx4, rfl, rfl⟩)
                  | (go_at_call 14; refine (hin _).mono ?_; rintro e w5 ⟨rfl, hx6⟩))
                go_ret
                exact ⟨rfl, Ext.trans (Ext.trans (Ext.trans hx3 hx4) hx5) hx6⟩
              | true =>
                rw [hg] at hg2
                simp only [hg, hg2, if_true] at hcA hcB
                have hsame := fun a b (ha : ClusterP es same ps a) (hb : ClusterP es2 same ps2 b) => cluster_evidence (part := part) hg (by rw [hes2.out, hps2.out]; exact hg2) ha (by rw [hes2.out, hps2.out]; exact hb)
                have HS := Lib.hid hsame
                clear hsame
                go_wp2_with (first
                  | (go_at_call 12
                     refine (hcB _ hx4).mono ?_
                     rintro e w4 ⟨v, k, rfl, hx5, rfl, ent2, hcp2, hrow2⟩
                     obtain rfl : ent = ent2 := HS.out _ _ hcp hcp2
                     have hel2 : ent.length = m := by have := hrow2.1; simpa using this
                     rw [← hel2] at hrow2
                     obtain ⟨A8, c8, hv8, hr8⟩ := own_reads hrow2 (by omega)
                     rw [hel2] at hv8 hr8
                     subst hv8
                     have hin := ints_any A7 m c7 ent A8 m c8 ent w4 (hr7.ext hx5) hr8
                     rw [decide_eq_true (rfl : ent = ent)] at hin
                     clear hel2 hrow2)
                  | (go_at_call 12
                     refine hcA.mono ?_
                     clear hcA
                     rintro e w3 ⟨v, k, rfl, hx4, rfl, ent, hcp, hrow⟩
                     have hel1 : ent.length = m := by have := hrow.1; simpa using this
                     rw [← hel1] at hrow
                     obtain ⟨A7, c7, hv7, hr7⟩ := own_reads hrow (by omega)
                     rw [hel1] at hv7 hr7
                     subst hv7
                     clear hel1 hrow)
                  | (go_at_call 14; refine hin.mono ?_; rintro e w5 ⟨rfl, hx6⟩))
                go_ret
                exact ⟨rfl, Ext.trans (Ext.trans (Ext.trans hx3 hx4) hx5) hx6⟩
            · obtain ⟨k, rfl⟩ : ∃ k', k = k' + 1 := ⟨k - 1, by omega⟩
              have e1 : ((k + 1 : Nat) : Int) - 1 = (k : Int) := by omega
              rw [e1]
              have hkq : k < q := by omega
              obtain ⟨b, off, rfl, hcell⟩ := h2.cell (by omega)
              have j1 := cell_ext hx (cell_ext hx1 (hcell k hkq).1)
              have j2 := cell_ext hx (cell_ext hx1 (hcell k hkq).2)
              have hsw := swapped_cons (ps := ps) (k := k) (by rw [HPL.out]; exact hkq)
              obtain ⟨pa, pb, hE⟩ : ∃ pa pb, Hid (pth ps k = (pa, pb)) := ⟨_, _, rfl⟩
              rw [hE.out] at j1 j2 hsw
              dsimp only at j1 j2 hsw
              have k1 := cell_ext hxx j1
              have k2 := cell_ext hxx j2
              clear hcell
              have hlen : (swapped (ps.drop (k + 1))).length ≤ 40 := by unfold swapped; rw [List.length_map, List.length_reverse, List.length_drop, HPL.out]; omega
              go_wp2
              have hsz := hxx.size
              have hbl := World.block_lt_of_cell? _ _ k1
              dsimp only at hbl
              obtain ⟨V1, hV1⟩ : ∃ V1, V1 = wr.drew.alloc (.cells #[.int .i64 pb, .int .i64 pa] 42) := ⟨_, rfl⟩
              have hy1 : Ext wr V1 := by rw [hV1]; exact Ext.trans (ext_drew _) (ext_alloc _ _)
              obtain ⟨v2, V2, happ, hown2, hg2, -⟩ := append_pair (pb, pa) (own_ext hrow (ext_drew wr)) hsz (by omega)
              rw [← hsw] at hown2
              dsimp only at happ
              rw [← hV1] at happ
              have hx2 := (Ext.trans hxx (ext_drew _)).grown hg2 hsz (fun k e => (own_block hrow e).1)
              have c0 : ∀ W, W = wr.drew ∨ W = V1 ∨ W = V2 → W.cell? ⟨b, off + k * 2, none⟩ = some (.int .i64 pa) ∧ W.cell? ⟨b, off + k * 2 + 1, none⟩ = some (.int .i64 pb) := fun W hW => by
                rcases hW with rfl | rfl | rfl
                · exact ⟨k1, k2⟩
                · exact ⟨cell_ext hy1 k1, cell_ext hy1 k2⟩
                · exact ⟨cell_ext hx2 j1, cell_ext hx2 j2⟩
              have hmem : ∀ b W, Chain [wr.drew, V1, V2] b W → W = wr.drew ∨ W = V1 ∨ W = V2 := fun b W hW => by
                have := List.mem_of_getElem? hW
                simpa using this
              refine wp_region_flow 14 [12, 13] (Chain [wr.drew, V1, V2]) (by kernel_rfl) (by kernel_rfl) rfl ?_
              simp only [List.take_succ_cons, List.take_zero, List.drop_succ_cons, List.drop_zero]
              refine flow_pure u13 rfl rfl (fun b W hW => by simp [go_sem]) ?_
              refine flow_pure (.slice (some ⟨b, off, none⟩) q c2) rfl rfl (fun b W hW => by simp [go_sem]) ?_
              refine flow_pure (.int .i64 k) rfl rfl (fun b W hW => by simp [go_sem]) ?_
              refine flow_pure (.pointer (some ⟨b, off + k * 2, none⟩)) rfl rfl (fun b W hW => by simp [go_sem, hkq]) ?_
              refine flow_pure (.pointer (some ⟨b, off + k * 2 + 1, none⟩)) rfl rfl (fun b W hW => by simp [go_sem]) ?_
              refine flow_pure (.int .i64 pb) rfl rfl (fun b W hW => by simp [go_sem, (c0 W (hmem _ W hW)).2]) ?_
              refine flow_pure (.slice (some ⟨b, off, none⟩) q c2) rfl rfl (fun b W hW => by simp [go_sem]) ?_
              refine flow_pure (.int .i64 k) rfl rfl (fun b W hW => by simp [go_sem]) ?_
              refine flow_pure (.pointer (some ⟨b, off + k * 2, none⟩)) rfl rfl (fun b W hW => by simp [go_sem, hkq]) ?_
              refine flow_pure (.pointer (some ⟨b, off + k * 2, none⟩)) rfl rfl (fun b W hW => by simp [go_sem]) ?_
              refine flow_pure (.int .i64 pa) rfl rfl (fun b W hW => by simp [go_sem, (c0 W (hmem _ W hW)).1]) ?_
              refine flow_pure (.agg #[.int .i64 pb, .int .i64 pa]) rfl rfl (fun b W hW => by simp [go_sem]) ?_
              refine flow_mark 0 (.slice (some ⟨wr.heap.size, 0, none⟩) 1 1) rfl rfl (fun W hW => by
                obtain rfl : wr.drew = W := Option.some.inj hW
                exact ⟨V1, by simp [go_sem, hV1], rfl⟩) ?_
              refine flow_mark 1 v2 rfl rfl (fun W hW => by
                obtain rfl : V1 = W := Option.some.inj hW
                exact ⟨V2, run_app (s := .tmp 78) (x := .tmp 90) happ rfl (by simp [go_sem]) (by simp [go_sem]), rfl⟩) ?_
              refine flow_nil fun W hW => ?_
              obtain rfl : V2 = W := Option.some.inj hW
              go_frame
              clear c0 hmem happ
              go_wp2
              go_roundw
              case rel => exact ⟨k, by omega, rfl, hown2, hx2⟩
              case measure => (simp [intOf] <;> omega)
        · obtain ⟨k, rfl⟩ : ∃ k', k = k' + 1 := ⟨k - 1, by omega⟩
          have e1 : ((k + 1 : Nat) : Int) - 1 = (k : Int) := by omega
          rw [e1]
          have hkn : k < n := by omega
          obtain ⟨b, off, rfl, hcell⟩ := h.cell (by omega)
          have k1 := cell_ext hx1 (hcell k hkn).1
          have k2 := cell_ext hx1 (hcell k hkn).2.1
          have k3 := cell_ext hx1 (hcell k hkn).2.2
          have k1 := cell_ext hx k1
          have k2 := cell_ext hx k2
          have k3 := cell_ext hx k3
          have htw := twice_cons (part := part) (es := es) (k := k) (by rw [HEL.out]; exact hkn)
          obtain ⟨ea, eb, ew, hE⟩ : ∃ ea eb ew, Hid (eth es k = ⟨ea, eb, ew⟩) := ⟨_, _, _, rfl⟩
          rw [hE.out] at k1 k2 k3 htw
          dsimp only at k1 k2 k3 htw
          have hbl : b < wr.heap.size := World.block_lt_of_cell? _ _ k1
          clear hcell
          by_cases hlo : ew < -999960000
          · go_wp2
            go_ret
            exact ⟨rfl, Ext.trans (Ext.trans hx1 hx) (ext_alloc _ _)⟩
          · by_cases hhi : 999960000 < ew
            · go_wp2
              go_ret
              exact ⟨rfl, Ext.trans (Ext.trans hx1 hx) (ext_alloc _ _)⟩
            · have hP2 : Hid (∀ j, k ≤ j → j < n → -999960000 ≤ (eth es j).w ∧ (eth es j).w ≤ 999960000) := Lib.hid (fun j h1 h2 => by
                rcases Nat.lt_or_eq_of_le h1 with h' | rfl
                · exact hP.out j (by omega) h2
                · rw [hE.out]; simp only; omega)
              clear hP
              go_wp2
              obtain ⟨W0, hW0⟩ : ∃ W0, Hid (W0 = wr.alloc (.cells #[.int .i64 ea, .int .i64 eb, .int .i64 ew] 40)) := ⟨_, rfl⟩
              have hx0 : Ext wr W0 := by rw [hW0.out]; exact ext_alloc _ _
              have hq0 : W0.heap[wr.heap.size]? = some (.cells #[.int .i64 ea, .int .i64 eb, .int .i64 ew] 40 (0, 0)) := by rw [hW0.out]; exact heap_alloc_new _ _
              have d0 : W0.cell? ⟨wr.heap.size, 0, none⟩ = some (.int .i64 ea) := (cells_of hq0 0 rfl).1
              have d1 : W0.cell? ⟨wr.heap.size, 1, none⟩ = some (.int .i64 eb) := (cells_of hq0 1 rfl).1
              have d2 : W0.cell? ⟨wr.heap.size, 2, none⟩ = some (.int .i64 ew) := (cells_of hq0 2 rfl).1
              rw [← hW0.out]
              have hsz := hx.size
              have hsz0 := hx0.size
              have hcv : IntKind.i64.wrap part = part := IntWalk.i64_in _ (by omega)
              have hrowD : W0.drew.ownsRow w1.heap.size 40 3 u10 (twice part (es.drop (k + 1))).length (ecells (twice part (es.drop (k + 1)))) := own_ext (own_ext hrow hx0) (ext_drew _)
              have hlen : (twice part (es.drop (k + 1))).length ≤ 80 := by rw [twice_len, List.length_drop, HEL.out]; omega
              obtain ⟨V1, hV1⟩ : ∃ V1, V1 = W0.drew.alloc (.cells #[.int .i64 eb, .int .i64 ea, .int .i64 (ew - part)] 40) := ⟨_, rfl⟩
              obtain ⟨V2, hV2⟩ : ∃ V2, V2 = V1.alloc (.cells #[.int .i64 ea, .int .i64 eb, .int .i64 part] 40) := ⟨_, rfl⟩
              obtain ⟨V3, hV3⟩ : ∃ V3, V3 = V2.alloc (.cells #[.int .i64 eb, .int .i64 ea, .int .i64 (ew - part), .int .i64 ea, .int .i64 eb, .int .i64 part] 40) := ⟨_, rfl⟩
              have hy1 : Ext W0 V1 := by rw [hV1]; exact Ext.trans (ext_drew _) (ext_alloc _ _)
              have hy2 : Ext V1 V2 := by rw [hV2]; exact ext_alloc _ _
              have hy3 : Ext V2 V3 := by rw [hV3]; exact ext_alloc _ _
              have hrow2 := own_ext (own_ext (own_ext hrow hx0) hy1) hy2
              obtain ⟨v4, V4, happ, hown4, hg4, -⟩ := append_edge2 ⟨eb, ea, ew - part⟩ ⟨ea, eb, part⟩ hrow2 (by have := hy1.size; have := hy2.size; omega) (by omega)
              rw [← htw] at hown4
              dsimp only at happ
              rw [← hV3] at happ
              have hK4 : ∀ k, k < V2.heap.size → u10.ownBlock ≠ some k → V4.heap[k]? = V2.heap[k]? := fun k hk hn => hg4.block k hk (fun e => hn e.symm)
              have hubox : u10.ownBlock ≠ some wr.heap.size := fun e => by
                have := (own_block hrow e).2.1
                omega
              have c0 : ∀ W, W = W0.drew ∨ W = V1 ∨ W = V2 ∨ W = V3 ∨ W = V4 → W.cell? ⟨wr.heap.size, 0, none⟩ = some (.int .i64 ea) ∧ W.cell? ⟨wr.heap.size, 1, none⟩ = some (.int .i64 eb) ∧ W.cell? ⟨wr.heap.size, 2, none⟩ = some (.int .i64 ew) := fun W hW => by
                have hq : W.heap[wr.heap.size]? = some (.cells #[.int .i64 ea, .int .i64 eb, .int .i64 ew] 40 (0, 0)) := by
                  have l0 := at_lt hq0
                  have l1 := ext_lt hy1 l0
                  have l2 := ext_lt hy2 l1
                  rcases hW with rfl | rfl | rfl | rfl | rfl
                  · exact hq0
                  · exact at_ext hq0 hy1
                  · exact at_ext (at_ext hq0 hy1) hy2
                  · exact at_ext (at_ext (at_ext hq0 hy1) hy2) hy3
                  · rw [hK4 _ l2 hubox]; exact at_ext (at_ext hq0 hy1) hy2
                exact ⟨(cells_of hq 0 rfl).1, (cells_of hq 1 rfl).1, (cells_of hq 2 rfl).1⟩
              have hmem : ∀ b W, Chain [W0.drew, V1, V2, V3, V4] b W → W = W0.drew ∨ W = V1 ∨ W = V2 ∨ W = V3 ∨ W = V4 := fun b W hW => by
                have := List.mem_of_getElem? hW
                simpa using this
              refine wp_region_flow 20 [10, 17, 18, 19] (Chain [W0.drew, V1, V2, V3, V4]) (by kernel_rfl) (by kernel_rfl) rfl ?_
              simp only [List.take_succ_cons, List.take_zero, List.drop_succ_cons, List.drop_zero]
              refine flow_pure u10 rfl rfl (fun b W hW => by simp [go_sem]) ?_
              refine flow_pure (.pointer (some ⟨wr.heap.size, 1, none⟩)) rfl rfl (fun b W hW => by simp [go_sem]) ?_
              refine flow_pure (.int .i64 eb) rfl rfl (fun b W hW => by simp [go_sem, (c0 W (hmem b W hW)).2.1]) ?_
              refine flow_pure (.pointer (some ⟨wr.heap.size, 0, none⟩)) rfl rfl (fun b W hW => by simp [go_sem]) ?_
              refine flow_pure (.int .i64 ea) rfl rfl (fun b W hW => by simp [go_sem, (c0 W (hmem b W hW)).1]) ?_
              refine flow_pure (.pointer (some ⟨wr.heap.size, 2, none⟩)) rfl rfl (fun b W hW => by simp [go_sem]) ?_
              refine flow_pure (.int .i64 ew) rfl rfl (fun b W hW => by simp [go_sem, (c0 W (hmem b W hW)).2.2]) ?_
              refine flow_pure (.int .i16 part) rfl rfl (fun b W hW => by simp [go_sem]) ?_
              refine flow_pure (.int .i64 part) rfl rfl (fun b W hW => by simp [go_sem, hcv]) ?_
              refine flow_pure (.int .i64 (ew - part)) rfl rfl (fun b W hW => by simp [go_sem]; exact IntWalk.i64_in _ (by omega)) ?_
              refine flow_mark_call 0 (.agg #[.int .i64 eb, .int .i64 ea, .int .i64 (ew - part)]) 23 #[.int .i64 eb, .int .i64 ea, .int .i64 (ew - part)] rfl rfl (fun W hW => by simp [go_sem]) (fun W hW => (edge_exact eb ea (ew - part) W).mono (by rintro e W' ⟨rfl, rfl⟩; obtain rfl : W0.drew = W := Option.some.inj hW; exact ⟨rfl, by rw [← hV1]; rfl⟩)) ?_
              refine flow_pure (.pointer (some ⟨wr.heap.size, 0, none⟩)) rfl rfl (fun b W hW => by simp [go_sem]) ?_
              refine flow_pure (.int .i64 ea) rfl rfl (fun b W hW => by simp [go_sem, (c0 W (hmem b W hW)).1]) ?_
              refine flow_pure (.pointer (some ⟨wr.heap.size, 1, none⟩)) rfl rfl (fun b W hW => by simp [go_sem]) ?_
              refine flow_pure (.int .i64 eb) rfl rfl (fun b W hW => by simp [go_sem, (c0 W (hmem b W hW)).2.1]) ?_
              refine flow_pure (.int .i16 part) rfl rfl (fun b W hW => by simp [go_sem]) ?_
              refine flow_pure (.int .i64 part) rfl rfl (fun b W hW => by simp [go_sem, hcv]) ?_
              refine flow_mark_call 1 (.agg #[.int .i64 ea, .int .i64 eb, .int .i64 part]) 23 #[.int .i64 ea, .int .i64 eb, .int .i64 part] rfl rfl (fun W hW => by simp [go_sem]) (fun W hW => (edge_exact ea eb part W).mono (by rintro e W' ⟨rfl, rfl⟩; obtain rfl : V1 = W := Option.some.inj hW; exact ⟨rfl, by rw [← hV2]; rfl⟩)) ?_
              refine flow_mark 2 (.slice (some ⟨V2.heap.size, 0, none⟩) 2 2) rfl rfl (fun W hW => by
                obtain rfl : V2 = W := Option.some.inj hW
                exact ⟨V3, by simp [go_sem, hV3], rfl⟩) ?_
              refine flow_mark 3 v4 rfl rfl (fun W hW => by
                obtain rfl : V3 = W := Option.some.inj hW
                exact ⟨V4, run_app (s := .tmp 51) (x := .tmp 69) happ rfl (by simp [go_sem]) (by simp [go_sem]), rfl⟩) ?_
              refine flow_nil fun W hW => ?_
              obtain rfl : V4 = W := Option.some.inj hW
              go_frame
              have hx4 : Ext w1 V4 := (Ext.trans (Ext.trans (Ext.trans hx hx0) hy1) hy2).grown hg4 (by have := hy1.size; have := hy2.size; omega) (fun k e => (own_block hrow e).1)
              clear c0 hmem happ
              go_wp2
              go_roundw
              case rel => exact ⟨k, by omega, rfl, hown4, hP2, hx4⟩
              case measure => (simp [intOf] <;> omega)
    · go_enter Try.func6, Try.ntmps6
      go_wp2_with (first
        | (go_at_call 10; refine (hh _).mono ?_; rintro e w1 ⟨rfl, hx1⟩)
        | (go_at_call 11; refine (hf _).mono ?_; rintro e w2 ⟨rfl, rfl⟩))
      go_ret
      exact ⟨rfl, hx1⟩
  · simp only [decide_eq_false hfew] at hf
    go_enter Try.func6, Try.ntmps6
    go_wp2_with (first
      | (go_at_call 10; refine (hh _).mono ?_; rintro e w1 ⟨rfl, hx1⟩)
      | (go_at_call 11; refine (hf _).mono ?_; rintro e w2 ⟨rfl, rfl⟩))
    go_ret
    exact ⟨rfl, hx1⟩

end Go.Proofs.Ytiapdpbcnbgdmaa

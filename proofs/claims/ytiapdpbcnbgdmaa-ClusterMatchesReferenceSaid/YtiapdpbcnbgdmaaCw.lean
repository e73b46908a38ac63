import Derived.Test.YtiapdpbcnbgdmaaCu
set_option linter.unusedVariables false
set_option linter.unusedSimpArgs false
namespace Go.Proofs.Ytiapdpbcnbgdmaa
open Go.RowKit

def goodB (es : List E3) (same : List Int) (ps : List (Int × Int)) : Bool := validB same && (linkedB same.length es && pairedB same.length ps)
theorem own_slice {w : World} {base e s n : Nat} {v : Value} {xs : List Value} (h : w.ownsRow base e s v n xs) : ∃ A c, v = .slice A n c ∧ (0 < n → ∃ g, A = some ⟨g, 0, none⟩ ∧ base ≤ g ∧ g < w.heap.size) := by
  rcases h.2 with ⟨rfl, rfl⟩ | ⟨g, cap, cur, rfl, hb, hk, _⟩
  · exact ⟨none, 0, rfl, fun h => absurd h (Nat.lt_irrefl _)⟩
  · exact ⟨_, cap, rfl, fun _ => ⟨g, rfl, hb, (Array.getElem?_eq_some_iff.1 hk).1⟩⟩
theorem heap_kept {w : World} {k : Nat} {X : Nat → Prop} {w' : World} (K : Kept X w w') (hk : k < w.heap.size) (hX : ¬ X k) : w'.heap[k]? = w.heap[k]? := K.block k hk hX
theorem entStep {same H : List Int} {i : Nat} (hi : i < same.length) : (((same.take i).map fun (c : Int) => nth H c.toNat) ++ List.replicate (same.length - i) 0).set i (nth H (nth same i).toNat) = ((same.take (i + 1)).map fun (c : Int) => nth H c.toNat) ++ List.replicate (same.length - (i + 1)) (0 : Int) := by
  obtain ⟨d, hd⟩ : ∃ d, same.length - i = d + 1 := ⟨same.length - i - 1, by omega⟩
  have hd' : same.length - (i + 1) = d := by omega
  have hl : ((same.take i).map fun (c : Int) => nth H c.toNat).length = i := by simp; omega
  have hn : nth same i = same[i] := by simp [nth, List.getD_eq_getElem?_getD, List.getElem?_eq_getElem hi]
  rw [hd, hd', List.replicate_succ, List.set_append_right _ _ (by omega), hl, Nat.sub_self, List.set_cons_zero, List.take_succ_eq_append_getElem hi, List.map_append, hn]
  simp
theorem Adj.symm' {WT : Int × Int → Option Int} : ∀ a b, Adj WT a b → Adj WT b a := fun _ _ h => h.symm
set_option maxRecDepth 100000 in
set_option maxHeartbeats 8000000 in
theorem cluster_any (A : Option Addr) (n c : Nat) (es : List E3) (A1 : Option Addr) (m c1 : Nat) (same : List Int) (A2 : Option Addr) (q c2 : Nat) (ps : List (Int × Int)) (w : World)
    (h : REdges w A n es) (h1 : RInts w A1 m same) (h2 : RPairs w A2 q ps) (hm : m ≤ 40) (hn : n ≤ 80) :
    Calls Try.prog 12 #[.slice A n c, .slice A1 m c1, .slice A2 q c2] w fun e w' => ∃ v k, e = .returned (.tuple #[v, .int .i64 k]) ∧ Ext w w' ∧
      (if goodB es same ps = true then k = 0 ∧ ∃ ent, ClusterP es same ps ent ∧ w'.ownsRow w.heap.size 3 1 v m (ints ent) else k = 1 ∧ v = .slice none 0 0) := by
  have hel := h.len
  have hsl := h1.len
  have hpl := h2.len
  subst hsl hel hpl
  obtain ⟨w0, hw0⟩ : ∃ w0, Hid (w0 = w.alloc (.cells #[.slice A1 same.length c1] 23)) := ⟨_, rfl⟩
  have hx0 : Ext w w0 := by rw [hw0.out]; exact ext_alloc _ _
  have hb0 : w0.heap[w.heap.size]? = some (.cells #[.slice A1 same.length c1] 23 (0, 0)) := by rw [hw0.out]; exact heap_alloc_new _ _
  have hsz0 : w0.heap.size = w.heap.size + 1 := by rw [hw0.out]; simp
  have kb : w0.cell? ⟨w.heap.size, 0, none⟩ = some (.slice A1 same.length c1) := (cells_of hb0 0 rfl).1
  have hc1 := valid_any A1 same.length c1 same w0 (h1.ext hx0)
  cases hvb : validB same with
  | false =>
    rw [hvb] at hc1
    have hgood : goodB es same ps = false := by simp [goodB, hvb]
    simp only [hgood, Bool.false_eq_true, if_false]
    go_enter Try.func12, Try.ntmps12
    go_wp2_with (go_at_call 25; rw [← hw0.out]; refine hc1.mono ?_; rintro e w' ⟨rfl, rfl⟩)
    refine bodyPost_ret (v := .tuple #[.slice none 0 0, .int .i64 1]) (by simp [results, Try.results12, go_sem]) rfl ⟨_, _, rfl, hx0, rfl, rfl⟩
  | true =>
    rw [hvb] at hc1
    have hc2 := linked_any same.length A es.length c es w0 (h.ext hx0)
    cases hlb : linkedB same.length es with
    | false =>
      rw [hlb] at hc2
      have hgood : goodB es same ps = false := by simp [goodB, hlb]
      simp only [hgood, Bool.false_eq_true, if_false]
      go_enter Try.func12, Try.ntmps12
      go_wp2_with (first | (go_at_call 25; rw [← hw0.out]; refine hc1.mono ?_; rintro e w' ⟨rfl, rfl⟩) | (go_at_call 26; refine hc2.mono ?_; rintro e w1 ⟨rfl, hb⟩))
      refine bodyPost_ret (v := .tuple #[.slice none 0 0, .int .i64 1]) (by simp [results, Try.results12, go_sem]) rfl ⟨_, _, rfl, Ext.trans hx0 hb, rfl, rfl⟩
    | true =>
      rw [hlb] at hc2
      have hc3 := fun (W : World) (hW : Ext w W) => paired_any same.length A2 ps.length c2 ps W (h2.ext hW)
      cases hpb : pairedB same.length ps with
      | false =>
        rw [hpb] at hc3
        have hgood : goodB es same ps = false := by simp [goodB, hpb]
        simp only [hgood, Bool.false_eq_true, if_false]
        go_enter Try.func12, Try.ntmps12
        go_wp2_with (first | (go_at_call 25; rw [← hw0.out]; refine hc1.mono ?_; rintro e w' ⟨rfl, rfl⟩) | (go_at_call 26; refine hc2.mono ?_; rintro e w1 ⟨rfl, hb⟩; have kb1 := cell_ext hb kb) | (go_at_call 27; refine (hc3 _ (Ext.trans hx0 hb)).mono ?_; rintro e w2 ⟨rfl, hb2⟩))
        refine bodyPost_ret (v := .tuple #[.slice none 0 0, .int .i64 1]) (by simp [results, Try.results12, go_sem]) rfl ⟨_, _, rfl, Ext.trans (Ext.trans hx0 hb) hb2, rfl, rfl⟩
      | true =>
        rw [hpb] at hc3
        have hgood : goodB es same ps = true := by simp [goodB, hvb, hlb, hpb]
        simp only [hgood, if_true]
        have hv := validB_good hvb
        obtain ⟨ge, hne⟩ := linkedB_good rfl hlb
        have gp := pairedB_good rfl hpb
        have hwc := wTo_cls hv rfl ge
        have hac := aTo_cls hv rfl gp
        have hwr := fun p => wTo_range (same := same) (fun j hj => (ge.1 j hj).2) p es.length (Nat.le_refl _)
        go_enter Try.func12, Try.ntmps12
        go_wp2_with (first | (go_at_call 25; rw [← hw0.out]; refine hc1.mono ?_; rintro e w' ⟨rfl, rfl⟩) | (go_at_call 26; refine hc2.mono ?_; rintro e w1 ⟨rfl, hb⟩; have kb1 := cell_ext hb kb) | (go_at_call 27; refine (hc3 _ (Ext.trans hx0 hb)).mono ?_; rintro e w2 ⟨rfl, hb2⟩; have kb2 := cell_ext hb2 kb1; have hx2 := Ext.trans (Ext.trans hx0 hb) hb2) | (go_at_call 28; refine (gather_any A es.length c es A1 same.length c1 same A2 ps.length c2 ps _ (h.ext hx2) (h1.ext hx2) (h2.ext hx2) hv ge.1 ge.2 gp).mono ?_; rintro e w3 ⟨r1, r2, rfl, hM1, hM2, hb3⟩; have hx3 := Ext.trans hx2 hb3; have kb3 := cell_ext hb3 kb2; have kb4 := cell_ext (ext_alloc w3 (.cells #[.slice A1 same.length c1, .map (some r1), .map (some r2)] 52)) kb3))
        obtain ⟨W4, hW4⟩ : ∃ W4, Hid (W4 = w3.alloc (.cells #[.slice A1 same.length c1, .map (some r1), .map (some r2)] 52)) := ⟨_, rfl⟩
        have hx34 : Ext w3 W4 := by rw [hW4.out]; exact ext_alloc _ _
        have hb4 : W4.heap[w3.heap.size]? = some (.cells #[.slice A1 same.length c1, .map (some r1), .map (some r2)] 52 (0, 0)) := by rw [hW4.out]; exact heap_alloc_new _ _
        have hx4 := Ext.trans hx3 hx34
        have hsz4 : w3.heap.size < W4.heap.size := (Array.getElem?_eq_some_iff.1 hb4).1
        rw [← hW4.out]
        clear kb4
        have kb4 := cell_ext hx34 kb3
        have hwS := hx3.size
        go_wp2_with (first
          | (go_at_call 29
             refine (clone_any A1 same.length c1 same W4 (h1.ext hx4) (by omega)).mono ?_
             rintro e w5 ⟨v5, rfl, hrow5, hx5, -, -⟩
             obtain ⟨A5, c5, rfl, hA5⟩ := own_slice hrow5
             have kb5 := cell_ext hx5 kb4
             have hb5 := (hx5.block _ hsz4).trans hb4
             have hM1' := hM1.same ((Ext.trans hx34 hx5).block _ hM1.lt)
             have d0 : w5.cell? ⟨w3.heap.size, 0, none⟩ = some (.slice A1 same.length c1) := (cells_of hb5 0 rfl).1
             have d1 : w5.cell? ⟨w3.heap.size, 1, none⟩ = some (.map (some r1)) := (cells_of hb5 1 rfl).1
             have d2 : w5.cell? ⟨w3.heap.size, 2, none⟩ = some (.map (some r2)) := (cells_of hb5 2 rfl).1)
          | (go_at_call 31
             refine (components_any A1 same.length c1 same r1 r2 _ w5 (h1.ext (Ext.trans hx4 hx5)) (hM1') hv (by omega) (fun p x hp => hwc p x es.length (Nat.le_refl _) hp)).mono ?_
             rintro e w6 ⟨v6, ms, rfl, hrow6, hmk, hx6⟩
             have hrow6 : w6.ownsRow w5.heap.size 3 1 v6 ms.length (ints ms) := by rw [hmk.1]; exact hrow6
             obtain ⟨A6, c6, hv6, hr6⟩ := own_reads hrow6 (by rw [hmk.1]; omega)
             rw [hmk.1] at hv6 hr6
             subst hv6)
          | (go_at_call 30
             refine (members_any A6 same.length c6 ms w6 hr6 (by omega)).mono ?_
             rintro e w7 ⟨v7, vs, rfl, hF, hx7⟩
             obtain ⟨A7, c7, rfl, hA7⟩ := own_slice hF.out))
        rw [groups_eq hmk Adj.symm' hv rfl] at hF
        have hL : vs.length = (comps ms same.length).length := by rw [hF.len, List.length_map]
        have hx57 := Ext.trans hx6 hx7
        have hx07 := Ext.trans (Ext.trans hx4 hx5) hx57
        have hs5 := hx5.size
        have hs6 := hx6.size
        have hs7 := hx7.size
        have hkb7 := cell_ext hx57 kb5
        have hb7 := (hx57.block _ (by omega)).trans hb5
        have hm1 := hM1'.same (hx57.block _ hM1'.lt)
        have hm2 := hM2.same ((Ext.trans (Ext.trans hx34 hx5) hx57).block _ hM2.lt)
        have hr1l := hM1.lt
        have hr2l := hM2.lt
        have S0 : CuSt w7 (.slice A5 same.length c5) W4.heap.size same.length vs 0 (HOk same.length (wTo es same es.length) (aTo ps same ps.length) same ms same.length 0) w7 :=
          ⟨⟨same, own_ext hrow5 hx57, rfl, fun t ht => absurd ht (Nat.not_lt_zero _)⟩, Kept.refl _ _⟩
        have hX : ∀ j k, (Value.ownBlock (.slice A5 same.length c5) = some k ∨ ∃ (t : Nat) (u : Value), t < j ∧ vs[t]? = some u ∧ u.ownBlock = some k) → W4.heap.size ≤ k := fun j k hk => by
          rcases hk with hk | ⟨t, u, _, hu, hk⟩
          · exact (own_block hrow5 hk).1
          · have htl : t < ((comps ms same.length).map (recs ms same.length)).length := by
              rw [← hF.len]; exact (List.getElem?_eq_some_iff.1 hu).1
            have := (own_block (hF.row t u _ hu (List.getElem?_eq_getElem htl)) hk).1
            omega
        clear hc1 hc2 hc3 hx34 hb4 hb5 d0 d1 d2 kb1 kb2 kb3 kb4 kb5 hM1' hM1 hM2 hr6 hrow6 hb0 kb hb hb2 hb3 hx0 hx2 hx3 h2
        have HL := Lib.hid hL
        clear hL
        go_loopg [56] vs.length (fun gg t wr => ∃ j : Nat, vs.length - j ≤ gg ∧ j ≤ vs.length ∧ t = .int .i64 j ∧ CuSt w7 (.slice A5 same.length c5) W4.heap.size same.length vs j (HOk same.length (wTo es same es.length) (aTo ps same ps.length) same ms same.length j) wr)
        case atStart => exact ⟨0, Nat.le_refl _, Nat.zero_le _, rfl, S0⟩
        case round =>
          obtain ⟨j, hgj', hj, rfl, S⟩ := hrel
          have hold : ∀ k, k < W4.heap.size → wr.heap[k]? = w7.heap[k]? := fun k hk => S.kept.block k (by omega) (fun hx => by have := hX j k hx; omega)
          have hszk := S.kept.size
          obtain ⟨H, hrowH, hHO⟩ := S.row
          by_cases hlt : j < vs.length
          · obtain ⟨u, hu⟩ : ∃ u, vs[j]? = some u := ⟨_, List.getElem?_eq_getElem hlt⟩
            have hlt' : j < (comps ms same.length).length := by rw [← HL.out]; exact hlt
            have hjb : j < 41 := by have := len_ixs same.length fun i => decide (nth ms i = i); unfold comps at hlt'; omega
            obtain ⟨cj, hcj⟩ : ∃ cj, Hid (nth (comps ms same.length) j = cj) := ⟨_, rfl⟩
            have hcm : cj ∈ comps ms same.length := by rw [← hcj.out]; exact nth_mem hlt'
            have hgj : ((comps ms same.length).map (recs ms same.length))[j]? = some (recs ms same.length cj) := by
              rw [List.getElem?_map, List.getElem?_eq_getElem hlt', ← hcj.out]
              simp [nth, List.getD_eq_getElem?_getD, List.getElem?_eq_getElem hlt']
            have hrow := hF.row j u _ hu hgj
            obtain ⟨k0, k1, k2⟩ := mem_comps.1 hcm
            have hmpos : 0 < same.length := by omega
            have hcr : cj ∈ recs ms same.length cj := mem_recs.2 ⟨k0, k1, k2⟩
            have hrl : 0 < (recs ms same.length cj).length := List.length_pos_of_mem hcr
            have hrl2 : (recs ms same.length cj).length ≤ same.length := len_ixs _ _
            have hcc := (hmk.2 cj.toNat (by omega)).1
            rw [k2] at hcc
            have hccl : cj ∈ clsOf same ms same.length cj := mem_cls.2 ⟨k0, k1, k2, hcc.2.2⟩
            have hkr := keep_recs same ms same.length cj
            obtain ⟨h5, rfl, h5a, h5b⟩ := hA5 hmpos
            obtain ⟨g7, rfl, h7a, h7b⟩ := hA7 (by omega)
            obtain ⟨Au, cu, rfl, hAu⟩ := own_slice hrow
            obtain ⟨gu, rfl, hga, hgb⟩ := hAu hrl
            have hgX : ¬ (Value.ownBlock (.slice (some ⟨h5, 0, none⟩) same.length c5) = some gu ∨ ∃ (t : Nat) (u : Value), t < j ∧ vs[t]? = some u ∧ u.ownBlock = some gu) := by
              rintro (hx | ⟨t, u, ht, hu', hx⟩)
              · have : h5 = gu := by simpa [Value.ownBlock] using hx
                omega
              · rcases hF.sep t j u _ ht hu' hu with h | h
                · rw [hx] at h; cases h
                · exact h (by rw [hx]; rfl)
            have hrowr := own_same (W' := wr) hrow (S.kept.block gu hgb hgX)
            have h7X : ¬ (Value.ownBlock (.slice (some ⟨h5, 0, none⟩) same.length c5) = some g7 ∨ ∃ (t : Nat) (u : Value), t < j ∧ vs[t]? = some u ∧ u.ownBlock = some g7) := by
              rintro (hx | ⟨t, u, ht, hu', hx⟩)
              · have : h5 = g7 := by simpa [Value.ownBlock] using hx
                omega
              · have htl : t < ((comps ms same.length).map (recs ms same.length)).length := by
                  rw [← hF.len]; exact (List.getElem?_eq_some_iff.1 hu').1
                rcases own_type_ne (hF.row t u _ hu' (List.getElem?_eq_getElem htl)) hF.out (by decide) with h | h
                · rw [hx] at h; cases h
                · exact h (by rw [hx]; rfl)
            have kout : wr.cell? ⟨g7, j, none⟩ = some (.slice (some ⟨gu, 0, none⟩) (recs ms same.length cj).length cu) := by
              have := own_at_row hF.out j _ hu
              exact S.kept.cell this h7X
            have hb7r := (hold w3.heap.size (by omega)).trans hb7
            have kb4r : wr.cell? ⟨w.heap.size, 0, none⟩ = some (.slice A1 same.length c1) := by
              have := S.kept.cell hkb7 (fun hx => by have := hX j _ hx; dsimp only at this; omega)
              exact this
            have hdel := delete_any w6.heap.size gu (recs ms same.length cj).length cu (recs ms same.length cj) 33 #[.pointer (some ⟨w.heap.size, 0, none⟩)] eg33 (fun x => nth same x.toNat != x) wr hrowr (by omega) (fun i hi W hW => by
              have hm := mem_recs.1 (nth_mem hi)
              have hW' : ∀ k, k < W4.heap.size → W.heap[k]? = w7.heap[k]? := fun k hk => (hW k (by omega) (by omega)).trans (hold k hk)
              have kbW : W.cell? ⟨w.heap.size, 0, none⟩ = some (.slice A1 same.length c1) := by
                have h7 := hkb7
                unfold World.cell? at h7 ⊢
                rw [hW' w.heap.size (by omega)]
                exact h7
              refine cluster1_any _ w.heap.size A1 same.length c1 same W kbW ⟨rfl, h1.big, fun hn => ?_⟩ hm.1 hm.2.1
              obtain ⟨b, off, e, hc⟩ := h1.cell hn
              refine ⟨b, off, e, fun i hi => ?_⟩
              have hci := cell_ext hx07 (hc i hi)
              have hbl := World.block_lt_of_cell? _ _ (hc i hi)
              dsimp only at hbl
              unfold World.cell? at hci ⊢
              rw [hW' b (by omega)]
              exact hci)
            rw [hkr] at hdel
            obtain ⟨cl, hcl⟩ : ∃ cl, Hid (clsOf same ms same.length cj = cl) := ⟨_, rfl⟩
            rw [hcl.out] at hdel hccl
            have hcl0 : 0 < cl.length := List.length_pos_of_mem hccl
            have hclm : ∀ c ∈ cl, 0 ≤ c ∧ c < same.length := fun c hc => by rw [← hcl.out] at hc; exact ⟨(mem_cls.1 hc).1, (mem_cls.1 hc).2.1⟩
            have hcln : cl.Nodup := by rw [← hcl.out]; exact nodup_ixs _ _
            have hcll : cl.length ≤ same.length := by rw [← hcl.out]; exact len_ixs _ _
            have hsolveE : ∀ W A' c', cl.length ≤ 8 → RInts W A' cl.length cl → MapFn W r1 kvP vvI (wTo es same es.length) → MapFn W r2 kvP vvB (aTo ps same ps.length) → Calls Try.prog 34 #[.agg #[.slice A1 same.length c1, .map (some r1), .map (some r2)], .slice A' cl.length c'] W fun e w' => ∃ A9 c9 hs, e = .returned (.slice A9 cl.length c9) ∧ Solved same.length (wTo es same es.length) (aTo ps same ps.length) cl hs ∧ RInts w' A9 cl.length hs ∧ (∃ b, A9 = some ⟨b, 0, none⟩ ∧ W.heap.size ≤ b) ∧ Ext W w' := fun W A' c' h8 hr hm1 hm2 => by
              refine (exact_any hr hm1 hm2 h8 hcl0 (fun p => by have := hwr p; omega)).mono ?_
              rintro e w' ⟨v, rfl, hx, hb⟩
              obtain ⟨b, hbest, _, _⟩ := bestOf_inv (W := wTo es same es.length) (cl := cl) (n := cl.length) (enum (aTo ps same ps.length) cl cl.length []) (fun e => by have := own_enum (AP := aTo ps same ps.length) hcln; rw [e] at this; simp at this)
              have hS : Solved same.length (wTo es same es.length) (aTo ps same ps.length) cl b := .inl ⟨h8, _, hbest⟩
              rw [hbest] at hb
              have hb : w'.ownsRow W.heap.size 3 1 v cl.length (ints b) := hb
              have hlb := hS.len hcln
              rw [← hlb] at hb
              obtain ⟨A9, c9, hv9, hr9⟩ := own_reads hb (by rw [hlb]; omega)
              subst hv9
              obtain ⟨A9', c9', e9, hA9⟩ := own_slice hb
              cases e9
              rw [hlb] at hr9 hA9 ⊢
              obtain ⟨g9, e9, hg9, _⟩ := hA9 hcl0
              exact ⟨_, _, b, rfl, hS, hr9, ⟨g9, e9, hg9⟩, hx⟩
            have hsolveG : ∀ W A' c', 8 < cl.length → RInts W A' cl.length cl → MapFn W r1 kvP vvI (wTo es same es.length) → MapFn W r2 kvP vvB (aTo ps same ps.length) → Calls Try.prog 35 #[.agg #[.slice A1 same.length c1, .map (some r1), .map (some r2)], .slice A' cl.length c'] W fun e w' => ∃ A9 c9 hs, e = .returned (.slice A9 cl.length c9) ∧ Solved same.length (wTo es same es.length) (aTo ps same ps.length) cl hs ∧ RInts w' A9 cl.length hs ∧ (∃ b, A9 = some ⟨b, 0, none⟩ ∧ W.heap.size ≤ b) ∧ Ext W w' := fun W A' c' h8 hr hm1 hm2 => by
              refine (greedy_any hr hm1 hm2 (by omega) hcl0 (fun p b hp => (hac p b ps.length (Nat.le_refl _) hp).1) same.length (fun p x hp => ?_) (fun p x hp => ?_) hm hclm (fun p hp => ?_) (fun p hp => ?_) (fun p => ?_)).mono ?_
              · obtain ⟨a1, a2, _⟩ := hwc p x es.length (Nat.le_refl _) hp
                exact ⟨a1.1, a1.2.1, a2.1, a2.2.1⟩
              · obtain ⟨_, a1, a2, _⟩ := hac p x ps.length (Nat.le_refl _) hp
                exact ⟨a1.1, a1.2.1, a2.1, a2.2.1⟩
              · obtain ⟨x, hx⟩ := Option.ne_none_iff_exists'.1 hp
                exact (hwc p x es.length (Nat.le_refl _) hx).2.2
              · obtain ⟨x, hx⟩ := Option.ne_none_iff_exists'.1 hp
                exact (hac p x ps.length (Nat.le_refl _) hx).2.2.2
              · have := hwr p
                omega
              · rintro e w' ⟨v, hd, rfl, hrun, hb, hx⟩
                have hS : Solved same.length (wTo es same es.length) (aTo ps same ps.length) cl (cl.map hd) := .inr ⟨h8, hd, hrun, rfl⟩
                have hlb := hS.len hcln
                rw [← hlb] at hb
                obtain ⟨A9, c9, hv9, hr9⟩ := own_reads hb (by rw [hlb]; omega)
                subst hv9
                obtain ⟨A9', c9', e9, hA9⟩ := own_slice hb
                cases e9
                rw [hlb] at hr9 hA9 ⊢
                obtain ⟨g9, e9, hg9, _⟩ := hA9 hcl0
                exact ⟨_, _, _, rfl, hS, hr9, ⟨g9, e9, hg9⟩, hx⟩
            rcases Nat.lt_or_ge 8 cl.length with h8 | h8
            · obtain ⟨H0, hH0⟩ : ∃ H0, H0 = H := ⟨_, rfl⟩
              go_wp2_with (first
                | (go_at_call 32
                   refine hdel.mono ?_
                   rintro e w8 ⟨mm, rfl, rfl, hrow8, hg8⟩
                   obtain ⟨A', c', hv', hr8⟩ := own_reads hrow8 (by omega)
                   cases hv'
                   have hold8 : ∀ k, k < W4.heap.size → w8.heap[k]? = w7.heap[k]? := fun k hk => (hg8.block k (by omega) (fun e => by have := Option.some.inj e; omega)).trans (hold k hk)
                   have hb8 := (hold8 w3.heap.size (by omega)).trans hb7
                   have d0 : w8.cell? ⟨w3.heap.size, 0, none⟩ = some (.slice A1 same.length c1) := (cells_of hb8 0 rfl).1
                   have d1 : w8.cell? ⟨w3.heap.size, 1, none⟩ = some (.map (some r1)) := (cells_of hb8 1 rfl).1
                   have d2 : w8.cell? ⟨w3.heap.size, 2, none⟩ = some (.map (some r2)) := (cells_of hb8 2 rfl).1
                   have hm18 := hm1.same (hold8 r1 (by omega))
                   have hm28 := hm2.same (hold8 r2 (by omega)))
                | (go_at_call 35
                   refine (hsolveG w8 _ _ h8 hr8 hm18 hm28).mono ?_
                   rintro e w9 ⟨A9, c9, hs, rfl, hS, hr9, ⟨b9, rfl, hb9⟩, hx9⟩))
              have hrow9 : w9.ownsRow W4.heap.size 3 1 (.slice (some ⟨h5, 0, none⟩) same.length c5) same.length (ints H) := own_ext (own_same hrowH (hg8.block h5 (by omega) (fun e => by have := Option.some.inj e; omega))) hx9
              have hs8 := hg8.size
              have hs9 := hx9.size
              have hr89 := hr8.ext hx9
              obtain ⟨b1, o1, e1, hc8⟩ := hr89.cell hcl0
              cases e1
              simp only [Nat.zero_add] at hc8
              obtain ⟨b1, o1, e1, hc9⟩ := hr9.cell hcl0
              cases e1
              simp only [Nat.zero_add] at hc9
              have hlH : H.length = same.length := hHO.1
              have hSl := Lib.hid S
              have HS := Lib.hid hS
              have HHO := Lib.hid hHO
              have Hdel := Lib.hid hdel
              clear hdel hsolveE hsolveG S0 hHO S hS hr8 hr9 hr89 hrow8 hrow hrowr hrowH hkr
              go_loopw [14, 15, 74] (fun _ _ t wr => ∃ i : Nat, i ≤ cl.length ∧ t = .int .i64 i ∧ wr.ownsRow W4.heap.size 3 1 (.slice (some ⟨h5, 0, none⟩) same.length c5) same.length (ints (putTo cl hs H i)) ∧ w9.grownBy wr (some h5)) (fun _ _ t _ => cl.length - (intOf t).toNat)
              case atStart => exact ⟨0, Nat.zero_le _, rfl, hrow9, World.grownBy.refl _ _⟩
              case round =>
                obtain ⟨i, hi, rfl, hrowi, hgi⟩ := hrel
                by_cases hil : i < cl.length
                · have q1 := hgi.cell (hc8 i hil) (fun e => by have := Option.some.inj e; dsimp only at this; omega)
                  have q2 := hgi.cell (hc9 i hil) (fun e => by have := Option.some.inj e; dsimp only at this; omega)
                  obtain ⟨ci0, ci1⟩ := hclm _ (nth_mem hil)
                  have hcn : (((nth cl i).toNat : Nat) : Int) = nth cl i := Int.toNat_of_nonneg ci0
                  obtain ⟨q3, q4⟩ := own_at hrowi (nth cl i).toNat (by omega)
                  obtain ⟨hst, hgs⟩ := own_store hrowi (nth cl i).toNat (nth hs i)
                  have HF := Lib.hid (And.intro hst (hgi.trans hgs))
                  clear hst hgs hrowi hgi
                  go_wp2
                  go_roundw
                  case rel => exact ⟨i + 1, by omega, by go_num, HF.out.1, HF.out.2⟩
                  case measure => (simp [intOf]; omega)
                · obtain rfl : i = cl.length := by omega
                  have hH' : HOk same.length (wTo es same es.length) (aTo ps same ps.length) same ms same.length (j + 1) (putTo cl hs H cl.length) := by
                    refine HOk.next HHO.out hlt' (by rw [putTo_len]; exact hlH) (hs := hs) (by rw [hcj.out, hcl.out]; exact HS.out) (fun i hi => ?_) (fun k hk => ?_)
                    · rw [hcj.out, hcl.out] at hi ⊢
                      exact putTo_in hcln (fun c hc => by rw [hlH]; exact hclm c hc) cl.length (Nat.le_refl _) i hi
                    · rw [hcj.out, hcl.out] at hk
                      exact putTo_out cl.length hk
                  have hK : Kept (fun k => Value.ownBlock (.slice (some ⟨h5, 0, none⟩) same.length c5) = some k ∨ ∃ (t : Nat) (u : Value), t < j + 1 ∧ vs[t]? = some u ∧ u.ownBlock = some k) w7 wr := by
                    refine (hSl.out.kept.mono fun k _ hk => ?_).trans ((Kept.of_grown hg8 (.inr ⟨j, _, Nat.lt_succ_self j, hu, rfl⟩)).trans ((Kept.of_ext hx9).trans (Kept.of_grown hgi (.inl rfl))))
                    rcases hk with hk | ⟨t, u, ht, hu', hk⟩
                    · exact .inl hk
                    · exact .inr ⟨t, u, by omega, hu', hk⟩
                  have HF := Lib.hid (CuSt.mk (w7 := w7) (v := .slice (some ⟨h5, 0, none⟩) same.length c5) (base := W4.heap.size) (m := same.length) (vs := vs) (j := j + 1) (P := HOk same.length (wTo es same es.length) (aTo ps same ps.length) same ms same.length (j + 1)) (W := wr) ⟨_, hrowi, hH'⟩ hK)
                  clear hH' hK hrowi hgi
                  go_wp2
                  go_roundg (vs.length - (j + 1))
                  case rel => exact ⟨j + 1, Nat.le_refl _, by omega, by go_num, HF.out⟩
                  case measure => omega
            · obtain ⟨H0, hH0⟩ : ∃ H0, H0 = H := ⟨_, rfl⟩
              go_wp2_with (first
                | (go_at_call 32
                   refine hdel.mono ?_
                   rintro e w8 ⟨mm, rfl, rfl, hrow8, hg8⟩
                   obtain ⟨A', c', hv', hr8⟩ := own_reads hrow8 (by omega)
                   cases hv'
                   have hold8 : ∀ k, k < W4.heap.size → w8.heap[k]? = w7.heap[k]? := fun k hk => (hg8.block k (by omega) (fun e => by have := Option.some.inj e; omega)).trans (hold k hk)
                   have hb8 := (hold8 w3.heap.size (by omega)).trans hb7
                   have d0 : w8.cell? ⟨w3.heap.size, 0, none⟩ = some (.slice A1 same.length c1) := (cells_of hb8 0 rfl).1
                   have d1 : w8.cell? ⟨w3.heap.size, 1, none⟩ = some (.map (some r1)) := (cells_of hb8 1 rfl).1
                   have d2 : w8.cell? ⟨w3.heap.size, 2, none⟩ = some (.map (some r2)) := (cells_of hb8 2 rfl).1
                   have hm18 := hm1.same (hold8 r1 (by omega))
                   have hm28 := hm2.same (hold8 r2 (by omega)))
                | (go_at_call 34
                   refine (hsolveE w8 _ _ h8 hr8 hm18 hm28).mono ?_
                   rintro e w9 ⟨A9, c9, hs, rfl, hS, hr9, ⟨b9, rfl, hb9⟩, hx9⟩))
              have hrow9 : w9.ownsRow W4.heap.size 3 1 (.slice (some ⟨h5, 0, none⟩) same.length c5) same.length (ints H) := own_ext (own_same hrowH (hg8.block h5 (by omega) (fun e => by have := Option.some.inj e; omega))) hx9
              have hs8 := hg8.size
              have hs9 := hx9.size
              have hr89 := hr8.ext hx9
              obtain ⟨b1, o1, e1, hc8⟩ := hr89.cell hcl0
              cases e1
              simp only [Nat.zero_add] at hc8
              obtain ⟨b1, o1, e1, hc9⟩ := hr9.cell hcl0
              cases e1
              simp only [Nat.zero_add] at hc9
              have hlH : H.length = same.length := hHO.1
              have hSl := Lib.hid S
              have HS := Lib.hid hS
              have HHO := Lib.hid hHO
              have Hdel := Lib.hid hdel
              clear hdel hsolveE hsolveG S0 hHO S hS hr8 hr9 hr89 hrow8 hrow hrowr hrowH hkr
              go_loopw [14, 15, 74] (fun _ _ t wr => ∃ i : Nat, i ≤ cl.length ∧ t = .int .i64 i ∧ wr.ownsRow W4.heap.size 3 1 (.slice (some ⟨h5, 0, none⟩) same.length c5) same.length (ints (putTo cl hs H i)) ∧ w9.grownBy wr (some h5)) (fun _ _ t _ => cl.length - (intOf t).toNat)
              case atStart => exact ⟨0, Nat.zero_le _, rfl, hrow9, World.grownBy.refl _ _⟩
              case round =>
                obtain ⟨i, hi, rfl, hrowi, hgi⟩ := hrel
                by_cases hil : i < cl.length
                · have q1 := hgi.cell (hc8 i hil) (fun e => by have := Option.some.inj e; dsimp only at this; omega)
                  have q2 := hgi.cell (hc9 i hil) (fun e => by have := Option.some.inj e; dsimp only at this; omega)
                  obtain ⟨ci0, ci1⟩ := hclm _ (nth_mem hil)
                  have hcn : (((nth cl i).toNat : Nat) : Int) = nth cl i := Int.toNat_of_nonneg ci0
                  obtain ⟨q3, q4⟩ := own_at hrowi (nth cl i).toNat (by omega)
                  obtain ⟨hst, hgs⟩ := own_store hrowi (nth cl i).toNat (nth hs i)
                  have HF := Lib.hid (And.intro hst (hgi.trans hgs))
                  clear hst hgs hrowi hgi
                  go_wp2
                  go_roundw
                  case rel => exact ⟨i + 1, by omega, by go_num, HF.out.1, HF.out.2⟩
                  case measure => (simp [intOf]; omega)
                · obtain rfl : i = cl.length := by omega
                  have hH' : HOk same.length (wTo es same es.length) (aTo ps same ps.length) same ms same.length (j + 1) (putTo cl hs H cl.length) := by
                    refine HOk.next HHO.out hlt' (by rw [putTo_len]; exact hlH) (hs := hs) (by rw [hcj.out, hcl.out]; exact HS.out) (fun i hi => ?_) (fun k hk => ?_)
                    · rw [hcj.out, hcl.out] at hi ⊢
                      exact putTo_in hcln (fun c hc => by rw [hlH]; exact hclm c hc) cl.length (Nat.le_refl _) i hi
                    · rw [hcj.out, hcl.out] at hk
                      exact putTo_out cl.length hk
                  have hK : Kept (fun k => Value.ownBlock (.slice (some ⟨h5, 0, none⟩) same.length c5) = some k ∨ ∃ (t : Nat) (u : Value), t < j + 1 ∧ vs[t]? = some u ∧ u.ownBlock = some k) w7 wr := by
                    refine (hSl.out.kept.mono fun k _ hk => ?_).trans ((Kept.of_grown hg8 (.inr ⟨j, _, Nat.lt_succ_self j, hu, rfl⟩)).trans ((Kept.of_ext hx9).trans (Kept.of_grown hgi (.inl rfl))))
                    rcases hk with hk | ⟨t, u, ht, hu', hk⟩
                    · exact .inl hk
                    · exact .inr ⟨t, u, by omega, hu', hk⟩
                  have HF := Lib.hid (CuSt.mk (w7 := w7) (v := .slice (some ⟨h5, 0, none⟩) same.length c5) (base := W4.heap.size) (m := same.length) (vs := vs) (j := j + 1) (P := HOk same.length (wTo es same es.length) (aTo ps same ps.length) same ms same.length (j + 1)) (W := wr) ⟨_, hrowi, hH'⟩ hK)
                  clear hH' hK hrowi hgi
                  go_wp2
                  go_roundg (vs.length - (j + 1))
                  case rel => exact ⟨j + 1, Nat.le_refl _, by omega, by go_num, HF.out⟩
                  case measure => omega
          · obtain rfl : j = vs.length := by omega
            have hmk23 := run_make_row' (P := Try.prog) 23 3 (.int .i64 0) 8 Try.underlying23 info3 rfl .i64 .i64 same.length (by omega) (by omega)
            have hHl : H.length = same.length := hHO.1
            have kb4r : wr.cell? ⟨w.heap.size, 0, none⟩ = some (.slice A1 same.length c1) := by
              have := S.kept.cell hkb7 (fun hx => by have := hX vs.length _ hx; dsimp only at this; omega)
              exact this
            obtain ⟨wE, hwE⟩ : ∃ wE, Hid (wE = wr.alloc (.cells (madeCells #[.int .i64 0] same.length) 3)) := ⟨_, rfl⟩
            have hxE : Ext wr wE := by rw [hwE.out]; exact ext_alloc _ _
            have hrowE : wE.ownsRow wr.heap.size 3 1 (.slice (some ⟨wr.heap.size, 0, none⟩) same.length same.length) same.length (ints (List.replicate same.length 0)) := by
              rw [hwE.out]; exact own_made wr wr.heap.size same.length (Nat.le_refl _) (by omega)
            have kbE := cell_ext hxE kb4r
            have hextR : Ext w wr := by
              have : Kept (fun k => W4.heap.size ≤ k) w7 wr := S.kept.mono (fun k _ hk => hX vs.length k hk)
              exact this.ext hx07 (fun k hk => by omega)
            have hrowHE := own_ext hrowH hxE
            have hextE := Ext.trans hextR hxE
            have hfin : ∀ ms', MarksOf es same ms' → True := fun _ _ => trivial
            have hmarks : MarksOf es same ms := hmk
            have hcp : ClusterP es same ps (same.map fun c => nth H c.toNat) := by
              refine ⟨ms, H, hmarks, fun c hc => ?_, rfl⟩
              obtain ⟨t, ht, rfl⟩ := nth_of_mem hc
              exact hHO.2 t (by rw [HL.out]; exact ht)
            have HCP := Lib.hid hcp
            have hszE := hxE.size
            have HOK := Lib.hid hHO
            have HSS := Lib.hid S
            have HFF := Lib.hid hF
            have HV := Lib.hid hv
            clear hcp hHO S hF S0 hmk hv hmarks hfin hold
            have kbE' := kbE
            rw [hwE.out] at kbE'
            go_wp2
            rw [← hwE.out]
            clear kbE' hmk23
            have hszR := hextR.size
            have hW45 : W4.heap.size ≤ wr.heap.size := by omega
            generalize hge : wr.heap.size = ge at *
            go_loopw [17, 18, 93] (fun _ _ t wx => ∃ i : Nat, i ≤ same.length ∧ t = .int .i64 i ∧ wx.ownsRow ge 3 1 (.slice (some ⟨ge, 0, none⟩) same.length same.length) same.length (ints (((same.take i).map fun (c : Int) => nth H c.toNat) ++ List.replicate (same.length - i) 0)) ∧ wE.grownBy wx (some ge)) (fun _ _ t _ => same.length - (intOf t).toNat)
            case atStart => exact ⟨0, Nat.zero_le _, rfl, by simpa using hrowE, World.grownBy.refl _ _⟩
            case round =>
              obtain ⟨i, hi, rfl, hrowi, hgi⟩ := hrel
              by_cases hlt : i < same.length
              · obtain ⟨b, off, rfl, hc1⟩ := h1.cell (by omega)
                have hbl := World.block_lt_of_cell? _ _ (hc1 i hlt)
                dsimp only at hbl
                have q1 := hgi.cell (cell_ext hextE (hc1 i hlt)) (fun e => by have := Option.some.inj e; dsimp only at this; omega)
                obtain ⟨c0, c1', c2'⟩ := HV.out.1 i hlt
                have hcn : (((nth same i).toNat : Nat) : Int) = nth same i := Int.toNat_of_nonneg c0
                have hcl : (nth same i).toNat < same.length := by omega
                obtain ⟨h5, rfl, h5a, h5b⟩ := hA5 (by omega)
                obtain ⟨q2, -⟩ := own_at hrowHE (nth same i).toNat hcl
                have q2 := hgi.cell q2 (fun e => by have := Option.some.inj e; dsimp only at this; omega)
                obtain ⟨q3, q4⟩ := own_at hrowi i hlt
                obtain ⟨hst, hgs⟩ := own_store hrowi i (nth H (nth same i).toNat)
                rw [entStep hlt] at hst
                have HF := Lib.hid (And.intro hst (hgi.trans hgs))
                clear hst hgs hrowi hgi hc1
                go_wp2
                go_roundw
                case rel => exact ⟨i + 1, by omega, by go_num, HF.out.1, HF.out.2⟩
                case measure => (simp [intOf]; omega)
              · obtain rfl : i = same.length := by omega
                rw [Nat.sub_self, List.replicate_zero, List.append_nil, List.take_length] at hrowi
                have hxF : Ext w wr := hextE.grown hgi hextE.size (fun k e => by cases e; omega)
                go_wp2
                exact bodyPost_ret (v := .tuple #[.slice (some ⟨ge, 0, none⟩) same.length same.length, .int .i64 0]) (by simp [results, Try.results12, go_sem]) rfl ⟨_, _, rfl, hxF, rfl, _, HCP.out, own_base hrowi (by omega)⟩

end Go.Proofs.Ytiapdpbcnbgdmaa

import Derived.Test.YtiapdpbcnbgdmaaPr
import Derived.Test.YtiapdpbcnbgdmaaHd
import Derived.Test.YtiapdpbcnbgdmaaAp
set_option linter.unusedVariables false
set_option linter.unusedSimpArgs false
namespace Go.Proofs.Ytiapdpbcnbgdmaa
open Go.RowKit

theorem take_filter {es : List E3} {P : E3 → Bool} {k : Nat} (h : k < es.length) : (es.take (k + 1)).filter P = (es.take k).filter P ++ if P (eth es k) = true then [eth es k] else [] := by
  rw [eth_take h, List.filter_append, List.filter_cons, List.filter_nil]
theorem cluster_in {es : List E3} {same ms ent : List Int} {ps : List (Int × Int)} (F : Facts es same ps) (h : ClusterP es same ps ent) (hmk : MarkOk same same.length (Adj (wTo es same es.length)) ms) (i : Nat) (hi : i < same.length) :
    0 ≤ nth ent i ∧ nth ent i < same.length ∧ nth ms (nth ent i).toNat = nth ms i ∧ 0 ≤ nth same i ∧ nth same i < same.length ∧ nth ms (nth same i).toNat = nth ms i := by
  obtain ⟨ms', hd, hm, hl, he, A, _, _⟩ := cluster_facts F h
  have hmk' : MarkOk same same.length (Adj (wTo es same es.length)) ms' := hm
  obtain rfl := hmk.uniq hmk' Adj.symm'
  have hc := same_cls F.v rfl (i := (i : Int)) (by omega) (by omega)
  rw [Int.toNat_natCast] at hc
  have hsm := hmk.same_eq Adj.symm' F.v rfl hi
  obtain ⟨k1, k2, k3⟩ := A.cls _ hc
  have km := A.mark _ hc
  rw [← he i hi] at k1 k2 km
  exact ⟨k1, k2, km.trans hsm, hc.1, hc.2.1, hsm⟩
set_option maxRecDepth 100000 in
set_option maxHeartbeats 8000000 in
theorem lawComponents_any (A : Option Addr) (n c : Nat) (es : List E3) (A1 : Option Addr) (m c1 : Nat) (same : List Int) (A2 : Option Addr) (q c2 : Nat) (ps : List (Int × Int)) (w : World)
    (h : REdges w A n es) (h1 : RInts w A1 m same) (h2 : RPairs w A2 q ps) :
    Calls Try.prog 7 #[.slice A n c, .slice A1 m c1, .slice A2 q c2] w fun e w' => e = .returned (.bool true) ∧ Ext w w' := by
  have hf := fun W => few_any A n c A1 m c1 A2 q c2 30 W h.big h1.big h2.big
  have hh := head_any
  by_cases hfew : (m : Int) ≤ 30 ∧ n ≤ 80 ∧ q ≤ 40
  · simp only [decide_eq_true hfew] at hf
    obtain ⟨f1, f2, f3⟩ := hfew
    obtain rfl := h.len
    obtain rfl := h1.len
    obtain rfl := h2.len
    have hc := fun W (hW : Ext w W) => cluster_any A es.length c es A1 same.length c1 same A2 ps.length c2 ps W (h.ext hW) (h1.ext hW) (h2.ext hW) (by omega) (by omega)
    have hcf := fun W (hW : Ext w W) => componentsF_any A es.length c es A1 same.length c1 same W (h.ext hW) (h1.ext hW)
    cases hg : goodB es same ps with
    | false =>
      simp only [hg, Bool.false_eq_true, if_false] at hc
      go_enter Try.func7, Try.ntmps7
      go_wp2_with (first
        | (go_at_call 10; refine (hh _).mono ?_; rintro e w1 ⟨rfl, hx1⟩)
        | (go_at_call 11; refine (hf _).mono ?_; rintro e w2 ⟨rfl, rfl⟩)
        | (go_at_call 12; refine (hc _ hx1).mono ?_; rintro e w3 ⟨v, k, rfl, hx2, rfl, rfl⟩; have hx3 := Ext.trans hx1 hx2)
        | (go_at_call 20; refine (hcf _ hx3).mono ?_; rintro e w4 ⟨v, rfl, hx4, -⟩))
      go_ret
      exact ⟨rfl, Ext.trans hx3 hx4⟩
    | true =>
      obtain ⟨g1, g2, g3⟩ := good_split hg
      have hvl : (validB same && linkedB same.length es) = true := by rw [g1, g2]; rfl
      simp only [hg, if_true] at hc
      simp only [hvl, if_true] at hcf
      have hmkr := @run_make_row' Try.prog 23 3 (.int .i64 0) 8 Try.underlying23 info3 rfl .i64 .i64 same.length (by omega) (by omega)
      go_enter Try.func7, Try.ntmps7
      go_wp2_with (first
        | (go_at_call 10; refine (hh _).mono ?_; rintro e w1 ⟨rfl, hx1⟩)
        | (go_at_call 11; refine (hf _).mono ?_; rintro e w2 ⟨rfl, rfl⟩)
        | (go_at_call 12
           refine (hc _ hx1).mono ?_
           rintro e w3 ⟨v, k, rfl, hx2, rfl, ent, hcp, hrow⟩
           have hx3 := Ext.trans hx1 hx2
           have hel : ent.length = same.length := by have := hrow.1; simpa using this
           rw [← hel] at hrow
           obtain ⟨A4, c4, hv4, hr4⟩ := own_reads hrow (by omega)
           rw [hel] at hv4 hr4
           subst hv4
           clear hel hrow)
        | (go_at_call 20
           refine (hcf _ hx3).mono ?_
           rintro e w4 ⟨v, rfl, hx4, vs, ms, hms, hF⟩
           obtain ⟨A7, c7, rfl, hA7⟩ := own_slice hF.out))
      have F := good_facts hg
      have hmk : MarkOk same same.length (Adj (wTo es same es.length)) ms := hms
      rw [groups_eq hmk Adj.symm' F.v rfl] at hF
      have hL : vs.length = (comps ms same.length).length := by rw [hF.len, List.length_map]
      have hLb : vs.length ≤ same.length := by rw [hL]; exact len_ixs _ _
      have hx5 := Ext.trans hx3 hx4
      have hr4 := hr4.ext hx4
      have hcc := cluster_components (b := []) hg hms hcp
      have hcnt := hmk.count Adj.symm'
      rw [← hL] at hcnt
      obtain ⟨wM, hwM⟩ : ∃ wM, Hid (wM = w4.alloc (.cells (madeCells #[.int .i64 0] same.length) 3)) := ⟨_, rfl⟩
      have hxM : Ext w4 wM := by rw [hwM.out]; exact ext_alloc _ _
      have hrowM : wM.ownsRow w4.heap.size 3 1 (.slice (some ⟨w4.heap.size, 0, none⟩) same.length same.length) same.length (ints (List.replicate same.length 0)) := by
        rw [hwM.out]; exact own_made w4 w4.heap.size same.length (Nat.le_refl _) (by omega)
      rw [← hwM.out]
      have HL := Lib.hid hL
      have HM := Lib.hid hmk
      have HC := Lib.hid hcc
      have HN := Lib.hid hcnt
      have HP := Lib.hid hcp
      have HH := Lib.hid hh
      clear hL hmk hms hcp hc hcf hh hf hcc hcnt hmkr g1 g2 g3 hvl
      go_loopg [12, 13] vs.length (fun gg t12 t13 wr => ∃ (j : Nat) (M : List Int), vs.length - j ≤ gg ∧ j ≤ vs.length ∧ t13 = .int .i64 j ∧ t12 = .int .i64 (cntTo ms same.length j) ∧ LMark ms same.length j 0 M ∧ wr.ownsRow w4.heap.size 3 1 (.slice (some ⟨w4.heap.size, 0, none⟩) same.length same.length) same.length (ints M) ∧ wM.grownBy wr (some w4.heap.size))
      case atStart => exact ⟨0, _, Nat.le_refl _, Nat.zero_le _, rfl, rfl, LMark.start _ _, hrowM, World.grownBy.refl _ _⟩
      case round =>
        obtain ⟨j, M, hgg, hj, rfl, rfl, hLM, hrowr, hgr⟩ := hrel
        by_cases hjl : j < vs.length
        · obtain ⟨u, hu⟩ : ∃ u, vs[j]? = some u := ⟨_, List.getElem?_eq_getElem hjl⟩
          have hjc : j < (comps ms same.length).length := by rw [← HL.out]; exact hjl
          obtain ⟨cj, hcj⟩ : ∃ cj, Hid (nth (comps ms same.length) j = cj) := ⟨_, rfl⟩
          have hcm : cj ∈ comps ms same.length := by rw [← hcj.out]; exact nth_mem hjc
          have hgj : ∀ j', j' < (comps ms same.length).length → ((comps ms same.length).map (recs ms same.length))[j']? = some (recs ms same.length (nth (comps ms same.length) j')) := fun j' hj' => by
            rw [List.getElem?_map, List.getElem?_eq_getElem hj']
            simp [nth, List.getD_eq_getElem?_getD, List.getElem?_eq_getElem hj']
          have hrow := hF.row j u _ hu (hgj j hjc)
          have hz := recs_zero HM.out F.v rfl hcm
          have hmem : ∀ x ∈ recs ms same.length cj, 0 ≤ x ∧ x < same.length ∧ nth ms x.toNat = cj := fun x hx => mem_recs.1 hx
          have hrl : (recs ms same.length cj).length ≤ same.length := len_ixs _ _
          have hrp : (recs ms same.length cj).Pairwise (· < ·) := pair_ixs _ _
          have hr0 : 0 < (recs ms same.length cj).length := List.length_pos_of_mem (mem_recs.2 (mem_comps.1 hcm))
          have hcj1 : cntTo ms same.length (j + 1) = cntTo ms same.length j + (recs ms same.length cj).length := by rw [cntTo, hcj.out]
          have hcm1 := cntTo_mono (ms := ms) (m := same.length) (j + 1) (vs.length - (j + 1))
          rw [show j + 1 + (vs.length - (j + 1)) = vs.length by omega, HN.out] at hcm1
          have hcm0 := cntTo_le (ms := ms) (m := same.length) j
          have hprev : ∀ j', j = j' + 1 → ∃ b8 o8 nn cc, wM.cell? ⟨(match A7 with | some a => a.block | none => 0), j', none⟩ = some (.slice (some ⟨b8, o8, none⟩) nn cc) ∧ 0 < nn ∧ wM.cell? ⟨b8, o8, none⟩ = some (.int .i64 (nth (comps ms same.length) j')) ∧ nth (comps ms same.length) j' < cj ∧ b8 < w4.heap.size := fun j' hjj => by
            have hj'l : j' < vs.length := by omega
            obtain ⟨u', hu'⟩ : ∃ u', vs[j']? = some u' := ⟨_, List.getElem?_eq_getElem hj'l⟩
            have hj'c : j' < (comps ms same.length).length := by rw [← HL.out]; exact hj'l
            have hcm' : nth (comps ms same.length) j' ∈ comps ms same.length := nth_mem hj'c
            have hrow' := hF.row j' u' _ hu' (hgj j' hj'c)
            have hz' := recs_zero HM.out F.v rfl hcm'
            have hr0' : 0 < (recs ms same.length (nth (comps ms same.length) j')).length := List.length_pos_of_mem (mem_recs.2 (mem_comps.1 hcm'))
            have hl' : (recs ms same.length (nth (comps ms same.length) j')).length ≤ same.length := len_ixs _ _
            obtain ⟨A8, c8, rfl, hr8⟩ := own_reads hrow' (by omega)
            obtain ⟨b8, o8, rfl, hc8⟩ := hr8.cell hr0'
            obtain ⟨g7, rfl, -, -⟩ := hA7 (by omega)
            have hq := hc8 0 hr0'
            rw [hz'] at hq
            refine ⟨b8, o8, _, c8, cell_ext hxM (own_at_row hF.out j' _ hu'), hr0', cell_ext hxM (by simpa using hq), ?_, World.block_lt_of_cell? _ _ hq⟩
            rw [← hcj.out]
            exact (lt_of_nth (pair_ixs _ _) hj'c hjc).2 (by omega)
          obtain ⟨rc, hrc⟩ : ∃ rc, Hid (recs ms same.length cj = rc) := ⟨_, rfl⟩
          rw [hcj.out, hrc.out] at hrow
          rw [hrc.out] at hz hmem hrl hrp hr0 hcj1
          obtain ⟨A8, c8, rfl, hr8⟩ := own_reads hrow (by omega)
          obtain ⟨g7, rfl, h7a, h7b⟩ := hA7 (by omega)
          have kout := cell_ext hxM (own_at_row hF.out j _ hu)
          obtain ⟨b8, o8, rfl, hc8⟩ := hr8.cell hr0
          have hb8 := World.block_lt_of_cell? _ _ (hc8 0 hr0)
          dsimp only at hb8 hprev
          have koutr := hgr.cell kout (fun e => by have := Option.some.inj e; dsimp only at this; omega)
          have HGR := Lib.hid hgr
          have HLM := Lib.hid hLM
          clear hrow hgj hu hgr hLM
          go_wp2
          go_loopw [12, 14, 15] (fun t12 t14 _ wx => ∃ (i : Nat) (M : List Int), i ≤ rc.length ∧ t14 = .int .i64 i ∧ t12 = .int .i64 (cntTo ms same.length j + i) ∧ LMark ms same.length j i M ∧ wx.ownsRow w4.heap.size 3 1 (.slice (some ⟨w4.heap.size, 0, none⟩) same.length same.length) same.length (ints M) ∧ wM.grownBy wx (some w4.heap.size)) (fun _ t _ _ => rc.length - (intOf t).toNat)
          case atStart => exact ⟨0, M, Nat.zero_le _, rfl, by simp, HLM.out, hrowr, HGR.out⟩
          case round =>
            obtain ⟨i, M, hi, rfl, rfl, hLM, hrowx, hgx⟩ := hrel
            have kx := hgx.cell kout (fun e => by have := Option.some.inj e; dsimp only at this; omega)
            by_cases hil : i < rc.length
            · obtain ⟨x0, x1, x2⟩ := hmem _ (nth_mem hil)
              have hnx := LMark.next HM.out Adj.symm' hLM hjc (by rw [hcj.out, hrc.out]; exact hil)
              rw [hcj.out, hrc.out] at hnx
              obtain ⟨hm0, hLM2⟩ := hnx
              have hxn : (((nth rc i).toNat : Nat) : Int) = nth rc i := Int.toNat_of_nonneg x0
              have q1 := hgx.cell (cell_ext hxM (hc8 i hil)) (fun e => by have := Option.some.inj e; dsimp only at this; omega)
              obtain ⟨q2, q3⟩ := own_at hrowx (nth rc i).toNat (by omega)
              rw [hm0] at q2
              obtain ⟨hst, hgs⟩ := own_store hrowx (nth rc i).toNat ((j : Int) + 1)
              have HF := Lib.hid (And.intro hLM2 (And.intro hst (hgx.trans hgs)))
              have hjb : (j : Int) < 40 := by omega
              have hib : (i : Int) < 40 := by omega
              clear hLM hLM2 hst hgs hm0 x2
              rcases Nat.eq_zero_or_pos i with hi0 | hip
              · have hip : ¬ (0 : Int) < i := by omega
                have hie : ((i : Int) == 0) = true := beq_t (by omega)
                have hz2 : nth rc i = cj := by rw [hi0]; exact hz
                have HI0 := Lib.hid hi0
                clear hi0
                rcases Nat.eq_zero_or_pos j with hj0 | hjp
                · have hjp : ¬ (0 : Int) < j := by omega
                  have HJ0 := Lib.hid hj0
                  clear hc8 hmem hprev hj0 hz2 hz
                  go_wp2
                  all_goals (
                    go_roundw
                    case rel => exact ⟨i + 1, _, by omega, by first | rfl | (congr 1; omega), by first | rfl | (congr 1; omega), HF.out.1, HF.out.2.1, HF.out.2.2⟩
                    case measure => (simp [intOf]; omega))
                · have hmx : max ((j : Int) - 1) 0 = ((j - 1 : Nat) : Int) := by omega
                  obtain ⟨b9, o9, nn, cc, p1, p2, p3, p4, p5⟩ := hprev (j - 1) (by omega)
                  have p1 := hgx.cell p1 (fun e => by have := Option.some.inj e; dsimp only at this; omega)
                  have p3 := hgx.cell p3 (fun e => by have := Option.some.inj e; dsimp only at this; omega)
                  rw [← hz2] at p4
                  have hj1 : j - 1 < vs.length := by omega
                  clear hc8 hmem hprev hz2 hz
                  go_wp2
                  all_goals (
                    go_roundw
                    case rel => exact ⟨i + 1, _, by omega, by first | rfl | (congr 1; omega), by first | rfl | (congr 1; omega), HF.out.1, HF.out.2.1, HF.out.2.2⟩
                    case measure => (simp [intOf]; omega))
              · obtain ⟨i, rfl⟩ : ∃ i', i = i' + 1 := ⟨i - 1, by omega⟩
                have qp := hgx.cell (cell_ext hxM (hc8 i (by omega))) (fun e => by have := Option.some.inj e; dsimp only at this; omega)
                have hlt := (lt_of_nth hrp (show i < rc.length by omega) hil).2 (Nat.lt_succ_self i)
                clear hc8 hmem hprev
                go_wp2
                all_goals (
                  go_roundw
                  case rel => exact ⟨i + 1 + 1, _, by omega, by first | rfl | (congr 1; omega), by first | rfl | (congr 1; omega), HF.out.1, HF.out.2.1, HF.out.2.2⟩
                  case measure => (simp [intOf]; omega))
            · obtain rfl : i = rc.length := by omega
              have hfin : LMark ms same.length (j + 1) 0 M := LMark.row HM.out Adj.symm' hjc (by rw [hcj.out, hrc.out]; exact hLM)
              have HF := Lib.hid (And.intro hfin (And.intro hrowx hgx))
              clear hfin hLM hrowx hgx hprev hc8 hmem
              go_wp2
              go_roundg (vs.length - (j + 1))
              case rel => exact ⟨j + 1, M, Nat.le_refl _, by omega, by go_num, by rw [hcj1], HF.out.1, HF.out.2.1, HF.out.2.2⟩
              case measure => omega
        · obtain rfl : j = vs.length := by omega
          rw [HL.out] at hLM
          have hcnt := HN.out
          have hext : Ext w4 wr := hxM.grown hgr hxM.size (fun k e => by cases e; exact Nat.le_refl _)
          have hxr := Ext.trans hx5 hext
          have hMe : ∀ x y : Nat, x < same.length → y < same.length → (nth M x = nth M y ↔ nth ms x = nth ms y) := fun x y hx hy => hLM.done HM.out Adj.symm' hx hy
          have HMe := Lib.hid hMe
          have her : ∀ k, k < es.length → 0 ≤ (eth es k).a ∧ (eth es k).a < same.length ∧ 0 ≤ (eth es k).b ∧ (eth es k).b < same.length := fun k hk => (F.e.1 k hk).1
          have HE := Lib.hid her
          rw [HN.out]
          clear hLM hMe her hcnt hgr
          go_wp2
          go_loopw [16, 17] (fun s t wx => ∃ k : Nat, k ≤ es.length ∧ t = .int .i64 k ∧ wx.ownsRow wr.heap.size 40 3 s ((es.take k).filter (keptE ms)).length (ecells ((es.take k).filter (keptE ms))) ∧ Ext wr wx) (fun _ t _ => es.length - (intOf t).toNat)
          case atStart => exact ⟨0, Nat.zero_le _, rfl, World.ownsRow_nil _ _ _ _, ⟨rfl, rfl, rfl, Nat.le_refl _, fun _ _ => rfl⟩⟩
          case round =>
            obtain ⟨k, hk, rfl, hrowE, hxx⟩ := hrel
            by_cases hkl : k < es.length
            · obtain ⟨b, off, rfl, hcell⟩ := h.cell (by omega)
              have hx6 := Ext.trans hxr hxx
              have k1 := cell_ext hx6 (hcell k hkl).1
              have k2 := cell_ext hx6 (hcell k hkl).2.1
              have k3 := cell_ext hx6 (hcell k hkl).2.2
              have htf := take_filter (P := keptE ms) hkl
              obtain ⟨a0, a1, b0, b1⟩ := HE.out k hkl
              have hme := HMe.out (eth es k).a.toNat (eth es k).b.toNat (by omega) (by omega)
              obtain ⟨ea, eb, ew, hE⟩ : ∃ ea eb ew, Hid (eth es k = ⟨ea, eb, ew⟩) := ⟨_, _, _, rfl⟩
              rw [hE.out] at k1 k2 k3 htf a0 a1 b0 b1 hme
              dsimp only at k1 k2 k3 htf a0 a1 b0 b1 hme
              have han : ((ea.toNat : Nat) : Int) = ea := Int.toNat_of_nonneg a0
              have hbn : ((eb.toNat : Nat) : Int) = eb := Int.toNat_of_nonneg b0
              obtain ⟨q1, -⟩ := own_at hrowr ea.toNat (by omega)
              obtain ⟨q2, -⟩ := own_at hrowr eb.toNat (by omega)
              have q1 := cell_ext hxx q1
              have q2 := cell_ext hxx q2
              have hlenE : ((es.take k).filter (keptE ms)).length ≤ 80 := Nat.le_trans (List.length_filter_le _ _) (by rw [List.length_take]; omega)
              have hsz := hxx.size
              clear hcell
              by_cases hcond : nth M ea.toNat = nth M eb.toNat
              · have hb := beq_t hcond
                have hkE : keptE ms ⟨ea, eb, ew⟩ = true := decide_eq_true (hme.1 hcond)
                rw [if_pos hkE] at htf
                clear hme hcond hkE
                go_wp2
                go_quiet (fail)
                obtain ⟨Wq, hWq⟩ : ∃ Wq, Hid (Wq = wr.drewN nq) := ⟨_, rfl⟩
                have hxq : Ext wr Wq := by rw [hWq.out]; exact ext_drewN _ _
                rw [← hWq.out]
                obtain ⟨v2, W2, happ, hown2, hg2, -⟩ := append_edge1 ⟨ea, eb, ew⟩ (own_ext hrowE hxq) (Nat.le_trans hsz hxq.size) (by omega)
                rw [← htf] at hown2
                dsimp only at happ
                have k1 := cell_ext hxq k1
                have k2 := cell_ext hxq k2
                have k3 := cell_ext hxq k3
                have hx2 := (Ext.trans hxx hxq).grown hg2 (Nat.le_trans hsz hxq.size) (fun k e => (own_block hrowE e).1)
                have HF := Lib.hid (And.intro hown2 hx2)
                clear hown2 hx2 hg2 hrowE htf q1 q2
                go_wp2_with (at_builtin; refine wpList_app happ rfl rfl rfl rfl ?_)
                go_roundw
                case rel => exact ⟨k + 1, by omega, by go_num, HF.out.1, HF.out.2⟩
                case measure => (simp [intOf]; omega)
              · have hb := beq_f hcond
                have hkE : ¬ keptE ms ⟨ea, eb, ew⟩ = true := fun h => hcond (hme.2 (of_decide_eq_true h))
                rw [if_neg hkE, List.append_nil] at htf
                rw [← htf] at hrowE
                have HF := Lib.hid hrowE
                clear hme hcond hkE hrowE htf
                go_wp2
                go_quiet (fail)
                go_wp2
                go_roundw
                case rel => exact ⟨k + 1, by omega, by go_num, own_ext HF.out (ext_drewN _ _), Ext.trans hxx (ext_drewN _ _)⟩
                case measure => (simp [intOf]; omega)
            · obtain rfl : k = es.length := by omega
              rw [List.take_length] at hrowE
              have hgood2 := HC.out.1
              have hsame := HC.out.2
              obtain ⟨es2, hes2⟩ : ∃ es2, Hid (es.filter (keptE ms) = es2) := ⟨_, rfl⟩
              have hl2 : es2.length ≤ 80 := by rw [← hes2.out]; exact Nat.le_trans (List.length_filter_le _ _) f2
              rw [hes2.out] at hrowE hgood2 hsame
              obtain ⟨A9, c9, hv9, hr9⟩ := own_edges hrowE (by omega)
              subst hv9
              have HS := Lib.hid hsame
              have HI := Lib.hid (cluster_in F HP.out HM.out)
              have hx6 := Ext.trans hxr hxx
              have hx46 := Ext.trans hext hxx
              have hrowr2 := own_ext hrowr hxx
              clear hrowE hsame hrowr
              go_wp2
              go_loopw [18] (fun t wx => ∃ i : Nat, i ≤ same.length ∧ t = .int .i64 i ∧ Ext wr wx) (fun t _ => same.length - (intOf t).toNat)
              case atStart => exact ⟨0, Nat.zero_le _, rfl, ⟨rfl, rfl, rfl, Nat.le_refl _, fun _ _ => rfl⟩⟩
              case round =>
                obtain ⟨i, hi, rfl, hxi⟩ := hrel
                by_cases hil : i < same.length
                · obtain ⟨b4, o4, rfl, hc4⟩ := hr4.cell (by omega)
                  obtain ⟨b1, o1, rfl, hc1⟩ := h1.cell (by omega)
                  obtain ⟨e0, e1, e2, s0, s1, s2⟩ := HI.out i hil
                  have q1 := cell_ext hxi (cell_ext hx46 (hc4 i hil))
                  have q2 := cell_ext hxi (cell_ext hx6 (hc1 i hil))
                  have hen : (((nth ent i).toNat : Nat) : Int) = nth ent i := Int.toNat_of_nonneg e0
                  have hsn : (((nth same i).toNat : Nat) : Int) = nth same i := Int.toNat_of_nonneg s0
                  have q3 := cell_ext hxi (own_at hrowr2 i hil).1
                  have q4 := cell_ext hxi (own_at hrowr2 (nth ent i).toNat (by omega)).1
                  have q5 := cell_ext hxi (own_at hrowr2 (nth same i).toNat (by omega)).1
                  rw [(HMe.out _ _ (by omega) hil).2 e2] at q4
                  rw [(HMe.out _ _ (by omega) hil).2 s2] at q5
                  clear hc4 hc1 e2 s2
                  go_wp2
                  go_quiet (fail)
                  go_wp2
                  go_roundw
                  case rel => exact ⟨i + 1, by omega, by go_num, Ext.trans hxi (ext_drewN _ _)⟩
                  case measure => (simp [intOf]; omega)
                · obtain rfl : i = same.length := by omega
                  have hx7 := Ext.trans hx6 hxi
                  have hcB := cluster_any A9 es2.length c9 es2 A1 same.length c1 same A2 ps.length c2 ps wr (hr9.ext hxi) (h1.ext hx7) (h2.ext hx7) (by omega) hl2
                  simp only [hgood2, if_true] at hcB
                  have hr4' := hr4.ext (Ext.trans hx46 hxi)
                  clear hr4 hr9
                  go_wp2_with (first
                    | (go_at_call 12
                       refine hcB.mono ?_
                       rintro e w8 ⟨v, k, rfl, hx8, rfl, ent2, hcp2, hrow2⟩
                       obtain rfl : ent = ent2 := HS.out ent2 hcp2
                       have hel2 : ent.length = same.length := by have := hrow2.1; simpa using this
                       rw [← hel2] at hrow2
                       obtain ⟨A8, c8, hv8, hr8⟩ := own_reads hrow2 (by omega)
                       rw [hel2] at hv8 hr8
                       subst hv8
                       have hin := ints_any A4 same.length c4 ent A8 same.length c8 ent w8 (hr4'.ext hx8) hr8
                       rw [decide_eq_true (rfl : ent = ent)] at hin
                       clear hel2 hrow2)
                    | (go_at_call 14; refine hin.mono ?_; rintro e w9 ⟨rfl, hx9⟩))
                  go_ret
                  exact ⟨rfl, Ext.trans (Ext.trans hx7 hx8) hx9⟩
  · simp only [decide_eq_false hfew] at hf
    go_enter Try.func7, Try.ntmps7
    go_wp2_with (first
      | (go_at_call 10; refine (hh _).mono ?_; rintro e w1 ⟨rfl, hx1⟩)
      | (go_at_call 11; refine (hf _).mono ?_; rintro e w2 ⟨rfl, rfl⟩))
    go_ret
    exact ⟨rfl, hx1⟩

end Go.Proofs.Ytiapdpbcnbgdmaa

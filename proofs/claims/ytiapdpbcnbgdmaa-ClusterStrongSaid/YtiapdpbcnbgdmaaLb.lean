import Derived.Test.YtiapdpbcnbgdmaaPq
import Derived.Test.YtiapdpbcnbgdmaaHd
set_option linter.unusedVariables false
set_option linter.unusedSimpArgs false
namespace Go.Proofs.Ytiapdpbcnbgdmaa
open Go.RowKit

theorem good_nil {es : List E3} {same : List Int} : goodB es same [] = (validB same && linkedB same.length es) := by
  unfold goodB
  have : pairedB same.length [] = true := rfl
  rw [this, Bool.and_true]
theorem hasE {es : List E3} {n : Nat} (hl : es.length = n) (h : ∀ j, j < n → 0 ≤ (eth es j).w) : ∀ e ∈ es, 0 ≤ e.w := fun e he => by
  obtain ⟨j, hj, e1⟩ := List.getElem_of_mem he
  have := h j (by omega)
  have ej : eth es j = e := by simp [eth, List.getD_eq_getElem?_getD, List.getElem?_eq_getElem hj, e1]
  rwa [ej] at this
set_option maxHeartbeats 4000000 in
theorem lawStrong_any (A : Option Addr) (n c : Nat) (es : List E3) (A1 : Option Addr) (m c1 : Nat) (same : List Int) (w : World) (h : REdges w A n es) (h1 : RInts w A1 m same) :
    Calls Try.prog 9 #[.slice A n c, .slice A1 m c1] w fun e w' => e = .returned (.bool true) ∧ Ext w w' := by
  have hf := fun W => few_any A n c A1 m c1 none 0 0 30 W h.big h1.big (by omega)
  have hh := head_any
  by_cases hfew : (m : Int) ≤ 30 ∧ n ≤ 80 ∧ 0 ≤ 40
  · simp only [decide_eq_true hfew] at hf
    obtain ⟨f1, f2, f3⟩ := hfew
    have hbig := h.big
    have hel := h.len
    go_enter Try.func9, Try.ntmps9
    go_wp2_with (first
      | (go_at_call 10; refine (hh _).mono ?_; rintro e w1 ⟨rfl, hx1⟩)
      | (go_at_call 11; refine (hf _).mono ?_; rintro e w2 ⟨rfl, rfl⟩))
    have HF := Lib.hid hf
    have HH := Lib.hid hh
    clear hf hh
    go_loopw [6] (fun t wr => ∃ k : Nat, k ≤ n ∧ t = .int .i64 k ∧ Hid (∀ j, j < k → 0 ≤ (eth es j).w) ∧ Ext w wr) (fun t _ => n - (intOf t).toNat)
    case atStart => exact ⟨0, Nat.zero_le _, rfl, Lib.hid (fun j hj => absurd hj (Nat.not_lt_zero _)), hx1⟩
    case round =>
      obtain ⟨k, hk, rfl, hP, hx⟩ := hrel
      by_cases hlt : k < n
      · obtain ⟨b, off, rfl, hcell⟩ := h.cell (by omega)
        have hk3 := cell_ext hx (hcell k hlt).2.2
        by_cases hneg : (eth es k).w < 0
        · clear hcell
          go_wp2
          go_ret
          exact ⟨rfl, hx⟩
        · have HP := hid_succ hP (show 0 ≤ (eth es k).w by omega)
          clear hcell hP
          go_wp2
          go_roundw
          case rel => exact ⟨k + 1, by omega, by go_num, HP, hx⟩
          case measure => (simp [intOf]; omega)
      · obtain rfl : k = n := by omega
        have hpos := Lib.hid (hasE hel hP.out)
        obtain rfl := h1.len
        subst hel
        have hc := cluster_any A es.length c es A1 same.length c1 same none 0 0 [] wr (h.ext hx) (h1.ext hx) (readsP0 _) (by omega) (by omega)
        have hcf := fun W (hW : Ext w W) => componentsF_any A es.length c es A1 same.length c1 same W (h.ext hW) (h1.ext hW)
        rw [← good_nil] at hcf
        cases hg : goodB es same [] with
        | false =>
          simp only [hg, Bool.false_eq_true, if_false] at hc hcf
          go_wp2_with (first
            | (go_at_call 12; refine hc.mono ?_; rintro e w3 ⟨v, k, rfl, hx2, rfl, rfl⟩; have hx3 := Ext.trans hx hx2)
            | (go_at_call 20; refine (hcf _ hx3).mono ?_; rintro e w4 ⟨v, rfl, hx4, rfl⟩))
          go_ret
          exact ⟨rfl, Ext.trans hx3 hx4⟩
        | true =>
          simp only [hg, if_true] at hc hcf
          go_wp2_with (first
            | (go_at_call 12
               refine hc.mono ?_
               rintro e w3 ⟨v, k, rfl, hx2, rfl, ent, hcp, hrow⟩
               have hx3 := Ext.trans hx hx2
               have hel : ent.length = same.length := by have := hrow.1; simpa using this
               rw [← hel] at hrow
               obtain ⟨A4, c4, hv4, hr4⟩ := own_reads hrow (by omega)
               rw [hel] at hv4 hr4
               subst hv4
               clear hel hrow)
            | (go_at_call 20
               refine (hcf _ hx3).mono ?_
               rintro e w4 ⟨v, rfl, hx4, vs, ms, hms, hF⟩
               obtain ⟨A7, c7, rfl, hA7⟩ := own_slice hF.out))
          have F := good_facts hg
          have hmk : MarkOk same same.length (Adj (wTo es same es.length)) ms := hms
          obtain ⟨-, hst⟩ := cluster_strong hg hpos.out hcp hms
          rw [groups_eq hmk Adj.symm' F.v rfl] at hF
          have hL : vs.length = (comps ms same.length).length := by rw [hF.len, List.length_map]
          have hLb : vs.length ≤ same.length := by rw [hL]; exact len_ixs _ _
          have hx5 := Ext.trans hx3 hx4
          have HL := Lib.hid hL
          have HS := Lib.hid hst
          have HM := Lib.hid hmk
          clear hL hst hmk hms hcp hc hcf
          go_loopg [10] vs.length (fun gg t wr => ∃ j : Nat, vs.length - j ≤ gg ∧ j ≤ vs.length ∧ t = .int .i64 j ∧ Ext w4 wr)
          case atStart => exact ⟨0, Nat.le_refl _, Nat.zero_le _, rfl, ⟨rfl, rfl, rfl, Nat.le_refl _, fun _ _ => rfl⟩⟩
          case round =>
            obtain ⟨j, hgg, hj, rfl, hxr⟩ := hrel
            by_cases hjl : j < vs.length
            · obtain ⟨u, hu⟩ : ∃ u, vs[j]? = some u := ⟨_, List.getElem?_eq_getElem hjl⟩
              have hjc : j < (comps ms same.length).length := by rw [← HL.out]; exact hjl
              obtain ⟨cj, hcj⟩ : ∃ cj, Hid (nth (comps ms same.length) j = cj) := ⟨_, rfl⟩
              have hcm : cj ∈ comps ms same.length := by rw [← hcj.out]; exact nth_mem hjc
              have hgj : ((comps ms same.length).map (recs ms same.length))[j]? = some (recs ms same.length cj) := by
                rw [List.getElem?_map, List.getElem?_eq_getElem hjc, ← hcj.out]
                simp [nth, List.getD_eq_getElem?_getD, List.getElem?_eq_getElem hjc]
              have hrow := hF.row j u _ hu hgj
              have hz := recs_zero HM.out F.v rfl hcm
              have hmem : ∀ x ∈ recs ms same.length cj, 0 ≤ x ∧ x < same.length ∧ nth ms x.toNat = cj := fun x hx => mem_recs.1 hx
              have hrl : (recs ms same.length cj).length ≤ same.length := len_ixs _ _
              obtain ⟨rc, hrc⟩ : ∃ rc, Hid (recs ms same.length cj = rc) := ⟨_, rfl⟩
              rw [hrc.out] at hrow hz hmem hrl
              obtain ⟨A8, c8, rfl, hr8⟩ := own_reads hrow (by omega)
              obtain ⟨g7, rfl, -, -⟩ := hA7 (by omega)
              have kout := cell_ext hxr (own_at_row hF.out j _ hu)
              have hr8 := hr8.ext hxr
              have hr4 := (hr4.ext hx4).ext hxr
              have HX := Lib.hid hxr
              clear hrow hgj hu hcm hjc hxr
              go_wp2
              go_loopw [11] (fun t wx => ∃ i : Nat, i ≤ rc.length ∧ t = .int .i64 i ∧ Ext wr wx) (fun t _ => rc.length - (intOf t).toNat)
              case atStart => exact ⟨0, Nat.zero_le _, rfl, ⟨rfl, rfl, rfl, Nat.le_refl _, fun _ _ => rfl⟩⟩
              case round =>
                obtain ⟨i, hi, rfl, hxi⟩ := hrel
                have kout := cell_ext hxi kout
                by_cases hil : i < rc.length
                · obtain ⟨b8, o8, rfl, hc8⟩ := hr8.cell (by omega)
                  obtain ⟨x0, x1, x2⟩ := hmem _ (nth_mem hil)
                  have hcn : (((nth rc i).toNat : Nat) : Int) = nth rc i := Int.toNat_of_nonneg x0
                  obtain ⟨b4, o4, rfl, hc4⟩ := hr4.cell (by omega)
                  have q1 := cell_ext hxi (hc8 i hil)
                  have q2 := cell_ext hxi (hc8 0 (by omega))
                  have q3 := cell_ext hxi (hc4 (nth rc i).toNat (by omega))
                  rw [HS.out _ (by omega), x2] at q3
                  rw [hz] at q2
                  simp only [Nat.add_zero] at q2
                  clear hc8 hc4 x2
                  go_wp2
                  go_quiet (fail)
                  go_wp2
                  go_roundw
                  case rel => exact ⟨i + 1, by omega, by go_num, Ext.trans hxi (ext_drewN _ _)⟩
                  case measure => (simp [intOf]; omega)
                · obtain rfl : i = rc.length := by omega
                  have HX2 := Lib.hid (Ext.trans HX.out hxi)
                  clear hxi
                  go_wp2
                  go_roundg (vs.length - (j + 1))
                  case rel => exact ⟨j + 1, Nat.le_refl _, by omega, by go_num, HX2.out⟩
                  case measure => omega
            · obtain rfl : j = vs.length := by omega
              go_wp2
              go_ret
              exact ⟨rfl, Ext.trans hx5 hxr⟩
  · simp only [decide_eq_false hfew] at hf
    go_enter Try.func9, Try.ntmps9
    go_wp2_with (first
      | (go_at_call 10; refine (hh _).mono ?_; rintro e w1 ⟨rfl, hx1⟩)
      | (go_at_call 11; refine (hf _).mono ?_; rintro e w2 ⟨rfl, rfl⟩))
    go_ret
    exact ⟨rfl, hx1⟩

end Go.Proofs.Ytiapdpbcnbgdmaa

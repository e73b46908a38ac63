import Derived.Test.YtiapdpbcnbgdmaaYc
import Derived.Test.YtiapdpbcnbgdmaaYa
import Derived.Test.YtiapdpbcnbgdmaaYb
set_option linter.unusedVariables false
set_option linter.unusedSimpArgs false
namespace Go.Proofs.Ytiapdpbcnbgdmaa
open Go.RowKit

/-- 'out = append(out, g)': a row of its own. -/
theorem Fam.pushRow {W : World} {base b2 : Nat} {v u : Value} {vs : List Value} {gs : List (List Int)} {l : List Int} (F : Fam W base v vs gs) (hu : W.ownsRow b2 3 1 u l.length (ints l)) (hb2 : base ≤ b2) (hone : u.oneCell' = true) (hfresh : ∀ u' ∈ vs, u'.ownBlock = none ∨ u'.ownBlock ≠ u.ownBlock) (hbase : base ≤ W.heap.size) (hl : gs.length < 1000000000000) :
    ∃ v' w', (Builtin.append_ #[34, 34] 34 #[v, .slice (some ⟨W.heap.size, 0, none⟩) 1 1]).run Try.prog (W.alloc (.cells #[u] 23)) = .ok v' w' ∧ Fam w' base v' (vs ++ [u]) (gs ++ [l]) ∧ W.grownBy w' v.ownBlock := by
  obtain ⟨v', w', h1, h2, h3, h4, _⟩ := append_one Try.underlying34 info23 rfl (by omega) u hone F.out hbase (by rw [F.len]; exact hl)
  refine ⟨v', w', h1, ⟨h2, by simp [F.len], fun j u' l' hu' hl' => ?_, fun i j u1 u2 hij h1' h2' => ?_⟩, h3⟩
  · by_cases hj : j < vs.length
    · rw [List.getElem?_append_left hj] at hu'
      rw [List.getElem?_append_left (by rw [← F.len]; exact hj)] at hl'
      have := F.row j u' l' hu' hl'
      exact this.kept h3 (own_type_ne this F.out (by decide))
    · have hlen := F.len
      rw [List.getElem?_append_right (by omega)] at hu'
      rw [List.getElem?_append_right (by omega)] at hl'
      have : j - vs.length = 0 := by
        rcases Nat.eq_zero_or_pos (j - vs.length) with h | h
        · exact h
        · rw [List.getElem?_eq_none (by simp; omega)] at hu'; cases hu'
      rw [this] at hu'
      rw [← hlen, this] at hl'
      simp at hu' hl'
      subst hu'; subst hl'
      exact own_base (hu.kept h3 (own_type_ne hu F.out (by decide))) hb2
  · by_cases hj : j < vs.length
    · rw [List.getElem?_append_left hj] at h2'
      rw [List.getElem?_append_left (by omega)] at h1'
      exact F.sep i j u1 u2 hij h1' h2'
    · have : j - vs.length = 0 := by
        rw [List.getElem?_append_right (by omega)] at h2'
        rcases Nat.eq_zero_or_pos (j - vs.length) with h | h
        · exact h
        · rw [List.getElem?_eq_none (by simp; omega)] at h2'; cases h2'
      rw [List.getElem?_append_right (by omega), this] at h2'
      simp at h2'
      subst h2'
      rw [List.getElem?_append_left (by omega)] at h1'
      exact hfresh u1 (List.mem_of_getElem? h1')
theorem comps_step {l : List Int} {i : Nat} : comps l (i + 1) = comps l i ++ if nth l i = i then [(i : Int)] else [] := by
  unfold comps
  rw [ixs_succ]
  by_cases h : nth l i = i <;> simp [h]
theorem recs_step {l : List Int} {k : Nat} {c : Int} : recs l (k + 1) c = recs l k c ++ if nth l k = c then [(k : Int)] else [] := by
  unfold recs
  rw [ixs_succ]
  by_cases h : nth l k = c <;> simp [h]
theorem recs_none {l : List Int} {i : Nat} (hle : ∀ k, k < i → nth l k ≤ k) : recs l i (i : Int) = [] := by
  rw [List.eq_nil_iff_forall_not_mem]
  intro d hd
  obtain ⟨h1, h2, h3⟩ := mem_recs.1 hd
  have := hle d.toNat (by omega)
  omega
set_option maxRecDepth 100000 in
set_option maxHeartbeats 4000000 in
theorem groups_any (A : Option Addr) (n c : Nat) (l : List Int) (w : World) (h : RInts w A n l) (hn : n ≤ 2000) (hle : ∀ k, k < n → nth l k ≤ k) :
    Calls Try.prog 46 #[.slice A n c] w fun e w' => ∃ v vs, e = .returned v ∧ Fam w' w.heap.size v vs ((comps l n).map (recs l n)) ∧ Ext w w' := by
  have hbig := h.big
  have HLE := Lib.hid hle
  clear hle
  go_enter Try.func46, Try.ntmps46
  go_wp2
  go_loopg [3, 4] n (fun gg s t wr => ∃ (i : Nat) (vs : List Value), n - i ≤ gg ∧ i ≤ n ∧ t = .int .i64 i ∧ Fam wr w.heap.size s vs ((comps l i).map (recs l n)) ∧ Ext w wr)
  case atStart => exact ⟨0, [], Nat.le_refl _, Nat.zero_le _, rfl, Fam.nil _ _, ⟨rfl, rfl, rfl, Nat.le_refl _, fun _ _ => rfl⟩⟩
  case round =>
    obtain ⟨i, vs, hgg, hi, rfl, hF, hx⟩ := hrel
    by_cases hlt : i < n
    · obtain ⟨b, off, rfl, hcell⟩ := h.cell (by omega)
      have q1 := cell_ext hx (hcell i hlt)
      by_cases hc : nth l i = i
      · have hb := bne_f hc
        have hcs : (comps l (i + 1)).map (recs l n) = (comps l i).map (recs l n) ++ [recs l n (i : Int)] := by rw [comps_step, if_pos hc, List.map_append]; rfl
        have h0 : recs l i (i : Int) = [] := recs_none fun k hk => HLE.out k (by omega)
        have hglen : ((comps l i).map (recs l n)).length ≤ 2000 := by rw [List.length_map]; exact Nat.le_trans (len_ixs _ _) (by omega)
        have HCS := Lib.hid hcs
        have HC := Lib.hid hc
        have hsz := hx.size
        clear hc hcs
        go_wp2
        go_loopw [5, 6] (fun s t wx => ∃ k : Nat, i ≤ k ∧ k ≤ n ∧ t = .int .i64 k ∧ wx.ownsRow wr.heap.size 3 1 s (recs l k (i : Int)).length (ints (recs l k (i : Int))) ∧ Ext wr wx) (fun _ t _ => n - (intOf t).toNat)
        case atStart => exact ⟨i, Nat.le_refl _, by omega, rfl, by rw [h0]; exact World.ownsRow_nil _ _ _ _, ⟨rfl, rfl, rfl, Nat.le_refl _, fun _ _ => rfl⟩⟩
        case round =>
          obtain ⟨k, hik, hk, rfl, hrow, hxx⟩ := hrel
          have hszx := hxx.size
          have hrlen : (recs l k (i : Int)).length ≤ 2000 := Nat.le_trans (len_ixs _ _) (by omega)
          by_cases hkl : k < n
          · have q2 := cell_ext hxx (cell_ext hx (hcell k hkl))
            by_cases he : nth l k = i
            · have hbe := beq_t he
              have hst : recs l (k + 1) (i : Int) = recs l k (i : Int) ++ [(k : Int)] := by rw [recs_step, if_pos he]
              obtain ⟨v2, W2, happ, hown2, hg2, -, -⟩ := append_one Try.underlying23 info3 rfl (by omega) (.int .i64 k) rfl (by rw [List.length_map]; exact hrow : wr.ownsRow _ 3 1 u5 (ints (recs l k (i : Int))).length (ints (recs l k (i : Int)))) hszx (by rw [List.length_map]; omega)
              have e2 : ints (recs l k (i : Int)) ++ [Value.int .i64 k] = ints (recs l (k + 1) (i : Int)) := by rw [hst]; simp
              rw [e2, List.length_map] at hown2
              have hx2 := hxx.grown hg2 hszx (fun k e => (own_block hrow e).1)
              have HF := Lib.hid (And.intro hown2 hx2)
              clear hown2 hx2 hg2 e2 hst hrow he
              go_wp2_with (at_builtin; refine wpList_app happ rfl rfl rfl rfl ?_)
              go_roundw
              case rel => exact ⟨k + 1, by omega, by omega, by go_num, HF.out.1, HF.out.2⟩
              case measure => (simp [intOf]; omega)
            · have hbe := beq_f he
              have hst : recs l (k + 1) (i : Int) = recs l k (i : Int) := by rw [recs_step, if_neg he, List.append_nil]
              rw [← hst] at hrow
              have HF := Lib.hid hrow
              clear hst hrow he
              go_wp2
              go_roundw
              case rel => exact ⟨k + 1, by omega, by omega, by go_num, HF.out, hxx⟩
              case measure => (simp [intOf]; omega)
          · obtain rfl : k = n := by omega
            have hlenF := hF.len
            have hfresh : ∀ u' ∈ vs, u'.ownBlock = none ∨ u'.ownBlock ≠ u5.ownBlock := fun u' hu' => by
              cases hb' : u'.ownBlock with
              | none => exact .inl rfl
              | some bb =>
                refine .inr fun e => ?_
                obtain ⟨j, hj, e1⟩ := List.getElem_of_mem hu'
                have hgj : ((comps l i).map (recs l k))[j]? = some (((comps l i).map (recs l k))[j]'(by rw [← hlenF]; exact hj)) := List.getElem?_eq_getElem _
                have h1 := own_block (hF.row j u' _ (by rw [List.getElem?_eq_getElem hj, e1]) hgj) hb'
                have h2 := own_block hrow e.symm
                omega
            obtain ⟨A8, c8, rfl, -⟩ := own_slice hrow
            obtain ⟨v2, W2, happ, hF2, hg2⟩ := (hF.ext hxx).pushRow hrow (by omega) rfl hfresh (by omega) (by omega)
            rw [← HCS.out] at hF2
            have hx2 : Ext w W2 := (Ext.trans hx hxx).grown hg2 (by omega) (fun k e => (own_block (hF.ext hxx).out e).1)
            have HF := Lib.hid (And.intro hF2 hx2)
            clear hF2 hx2 hg2 hF hrow hfresh hlenF
            go_wp2_with (at_builtin; refine wpList_app happ rfl rfl rfl rfl ?_)
            go_roundg (k - (i + 1))
            case measure => exact Nat.lt_of_lt_of_le (Nat.sub_lt_sub_left hlt (Nat.lt_succ_self i)) hgg
            case rel => exact ⟨i + 1, _, Nat.le_refl _, by omega, by go_num, HF.out.1, HF.out.2⟩
      · have hb := bne_t hc
        have hcs : comps l (i + 1) = comps l i := by rw [comps_step, if_neg hc, List.append_nil]
        rw [← hcs] at hF
        have HF := Lib.hid hF
        clear hF hcs hc hcell
        go_wp2
        go_roundg (n - (i + 1))
        case measure => exact Nat.lt_of_lt_of_le (Nat.sub_lt_sub_left hlt (Nat.lt_succ_self i)) hgg
        case rel => exact ⟨i + 1, vs, Nat.le_refl _, by omega, by go_num, HF.out, hx⟩
    · obtain rfl : i = n := by omega
      go_wp2
      exact bodyPost_ret (v := u3) (by simp [results, Try.results46, go_sem]) rfl ⟨_, vs, rfl, hF, hx⟩

set_option maxRecDepth 100000 in
set_option maxHeartbeats 4000000 in
theorem refComps_any (A : Option Addr) (n c : Nat) (es : List E3) (A1 : Option Addr) (m c1 : Nat) (same : List Int) (w : World) (h : REdges w A n es) (h1 : RInts w A1 m same) :
    Calls Try.prog 21 #[.slice A n c, .slice A1 m c1] w fun e w' => ∃ v, e = .returned v ∧ Ext w w' ∧
      (if (validB same && linkedB m es) = true then ∃ vs ms, MarksOf es same ms ∧ Fam w' w.heap.size v vs ((comps ms m).map (recs ms m)) else v = .slice none 0 0) := by
  have hc1 := refValid_any A1 m c1 same w h1
  have hc2 := fun W (hW : Ext w W) => refLinked_any m A n c es W (h.ext hW)
  cases hvb : validB same with
  | false =>
    rw [hvb] at hc1
    go_enter Try.func21, Try.ntmps21
    go_wp2_with (go_at_call 36; refine hc1.mono ?_; rintro e w1 ⟨rfl, hx1⟩)
    refine bodyPost_ret (v := .slice none 0 0) (by simp [results, Try.results21, go_sem]) rfl ⟨rfl, hx1⟩
  | true =>
    rw [hvb] at hc1
    cases hlb : linkedB m es with
    | false =>
      rw [hlb] at hc2
      go_enter Try.func21, Try.ntmps21
      go_wp2_with (first | (go_at_call 36; refine hc1.mono ?_; rintro e w1 ⟨rfl, hx1⟩) | (go_at_call 37; refine (hc2 _ hx1).mono ?_; rintro e w2 ⟨rfl, hx2⟩))
      refine bodyPost_ret (v := .slice none 0 0) (by simp [results, Try.results21, go_sem]) rfl ⟨rfl, Ext.trans hx1 hx2⟩
    | true =>
      rw [hlb] at hc2
      have hv := validB_good hvb
      obtain ⟨ge, -⟩ := linkedB_good h.len hlb
      have hsl := h1.len
      have hm : m ≤ 2000 := by have := hv.2; omega
      have hc3 := fun W (hW : Ext w W) => marks_any A n c es A1 m c1 same W (h.ext hW) (h1.ext hW) hv ge
      have hof : ∀ ms, MarkOk same m (Adj (wTo es same n)) ms → MarksOf es same ms := fun ms hk => by unfold MarksOf; rw [h.len, hsl]; exact hk
      have HSL := Lib.hid hsl
      clear hsl
      go_enter Try.func21, Try.ntmps21
      go_wp2_with (first
        | (go_at_call 36; refine hc1.mono ?_; rintro e w1 ⟨rfl, hx1⟩)
        | (go_at_call 37; refine (hc2 _ hx1).mono ?_; rintro e w2 ⟨rfl, hx2⟩; have hx12 := Ext.trans hx1 hx2)
        | (go_at_call 39
           refine (hc3 _ hx12).mono ?_
           rintro e w3 ⟨v, ms, rfl, hrow, hmk, hx3⟩
           have hrow' : w3.ownsRow w2.heap.size 3 1 v ms.length (ints ms) := by rw [hmk.1]; exact hrow
           obtain ⟨A6, c6, hv6, hr6⟩ := own_reads hrow' (by rw [hmk.1]; omega)
           rw [hmk.1] at hv6 hr6
           subst hv6
           have hgr := groups_any A6 m c6 ms w3 hr6 hm (fun k hk => hmk.le hv HSL.out hk)
           clear hrow hrow')
        | (go_at_call 46
           refine hgr.mono ?_
           rintro e w4 ⟨v, vs, rfl, hF, hx4⟩))
      have hx123 := Ext.trans hx12 hx3
      refine bodyPost_ret (v := v) (by simp [results, Try.results21, go_sem]) rfl ⟨_, rfl, Ext.trans hx123 hx4, ?_⟩
      exact ⟨vs, ms, hof ms hmk, hF.base hx123.size⟩
set_option maxRecDepth 100000 in
set_option maxHeartbeats 4000000 in
theorem classes_any (A : Option Addr) (n c : Nat) (es : List E3) (A1 : Option Addr) (m c1 : Nat) (same : List Int) (w : World) (h : REdges w A n es) (h1 : RInts w A1 m same) :
    Calls Try.prog 22 #[.slice A n c, .slice A1 m c1] w fun e w' => ∃ mx : Int, e = .returned (.int .i64 mx) ∧ Ext w w' ∧
      ((validB same && linkedB m es) = true → ∃ ms, MarksOf es same ms ∧ ∀ t, t < (comps ms m).length → ((clsOf same ms m (nth (comps ms m) t)).length : Int) ≤ mx) := by
  have hcc := refComps_any A n c es A1 m c1 same w h h1
  cases hb : (validB same && linkedB m es) with
  | false =>
    simp only [hb, Bool.false_eq_true, if_false] at hcc
    go_enter Try.func22, Try.ntmps22
    go_wp2_with (go_at_call 21; refine hcc.mono ?_; rintro e w1 ⟨v, rfl, hx1, rfl⟩)
    go_loopw [5, 7] (fun s t wr => s = .int .i64 0 ∧ t = .int .i64 0 ∧ w1 = wr) (fun _ t _ => 0)
    case atStart => exact ⟨rfl, rfl, rfl⟩
    case round =>
      obtain ⟨rfl, rfl, rfl⟩ := hrel
      go_wp2
      exact bodyPost_ret (v := .int .i64 0) (by simp [results, Try.results22, go_sem]) rfl ⟨0, rfl, hx1, fun h => by cases h⟩
  | true =>
    simp only [hb, if_true] at hcc
    rw [Bool.and_eq_true] at hb
    have hv := validB_good hb.1
    have hbig := h1.big
    have hsl := h1.len
    have hm : m ≤ 2000 := by have := hv.2; omega
    clear hsl
    go_enter Try.func22, Try.ntmps22
    go_wp2_with (go_at_call 21; refine hcc.mono ?_; rintro e w1 ⟨v, rfl, hx1, vs, ms, hms, hF⟩; obtain ⟨A7, c7, rfl, hA7⟩ := own_slice hF.out)
    have hL : vs.length = (comps ms m).length := by rw [hF.len, List.length_map]
    have hLb : vs.length ≤ m := by rw [hL]; exact len_ixs _ _
    have HL := Lib.hid hL
    clear hL hcc
    go_loopg [5, 7] vs.length (fun gg s t wr => ∃ (j : Nat) (mx : Int), vs.length - j ≤ gg ∧ j ≤ vs.length ∧ t = .int .i64 j ∧ s = .int .i64 mx ∧ Hid (∀ t, t < j → ((clsOf same ms m (nth (comps ms m) t)).length : Int) ≤ mx) ∧ Ext w1 wr)
    case atStart => exact ⟨0, 0, Nat.le_refl _, Nat.zero_le _, rfl, rfl, Lib.hid (fun t ht => absurd ht (Nat.not_lt_zero _)), ⟨rfl, rfl, rfl, Nat.le_refl _, fun _ _ => rfl⟩⟩
    case round =>
      obtain ⟨j, mx, hgg, hj, rfl, rfl, hI, hxr⟩ := hrel
      by_cases hjl : j < vs.length
      · obtain ⟨u, hu⟩ : ∃ u, vs[j]? = some u := ⟨_, List.getElem?_eq_getElem hjl⟩
        have hjc : j < (comps ms m).length := by rw [← HL.out]; exact hjl
        have hgj : ((comps ms m).map (recs ms m))[j]? = some (recs ms m (nth (comps ms m) j)) := by
          rw [List.getElem?_map, List.getElem?_eq_getElem hjc]
          simp [nth, List.getD_eq_getElem?_getD, List.getElem?_eq_getElem hjc]
        have hrow := hF.row j u _ hu hgj
        have hkr := keep_recs same ms m (nth (comps ms m) j)
        have hmem : ∀ x ∈ recs ms m (nth (comps ms m) j), 0 ≤ x ∧ x < m := fun x hx => ⟨(mem_recs.1 hx).1, (mem_recs.1 hx).2.1⟩
        have hrl : (recs ms m (nth (comps ms m) j)).length ≤ m := len_ixs _ _
        obtain ⟨rc, hrc⟩ : ∃ rc, Hid (recs ms m (nth (comps ms m) j) = rc) := ⟨_, rfl⟩
        rw [hrc.out] at hrow hmem hrl hkr
        obtain ⟨A8, c8, rfl, hr8⟩ := own_reads hrow (by omega)
        obtain ⟨g7, rfl, -, -⟩ := hA7 (by omega)
        have kout := cell_ext hxr (own_at_row hF.out j _ hu)
        have hr8 := hr8.ext hxr
        have hr1 := (h1.ext hx1).ext hxr
        have HK := Lib.hid hkr
        have HX := Lib.hid hxr
        clear hrow hgj hu hkr hxr
        go_wp2
        go_loopw [8, 9] (fun s t wx => ∃ i : Nat, i ≤ rc.length ∧ t = .int .i64 i ∧ s = .int .i64 ((keep (fun x => nth same x.toNat != x) (rc.take i)).length : Nat) ∧ Ext wr wx) (fun _ t _ => rc.length - (intOf t).toNat)
        case atStart => exact ⟨0, Nat.zero_le _, rfl, rfl, ⟨rfl, rfl, rfl, Nat.le_refl _, fun _ _ => rfl⟩⟩
        case round =>
          obtain ⟨i, hi, rfl, rfl, hxi⟩ := hrel
          have kout := cell_ext hxi kout
          by_cases hil : i < rc.length
          · obtain ⟨b8, o8, rfl, hc8⟩ := hr8.cell (by omega)
            obtain ⟨x0, x1⟩ := hmem _ (nth_mem hil)
            have hcn : (((nth rc i).toNat : Nat) : Int) = nth rc i := Int.toNat_of_nonneg x0
            obtain ⟨b4, o4, rfl, hc4⟩ := hr1.cell (by omega)
            have q1 := cell_ext hxi (hc8 i hil)
            have q3 := cell_ext hxi (hc4 (nth rc i).toNat (by omega))
            have hks := keep_snoc (fun x => nth same x.toNat != x) rc i hil
            have hkl : (keep (fun x => nth same x.toNat != x) (rc.take i)).length ≤ 2000 := Nat.le_trans (keep_len _ _) (by rw [List.length_take]; omega)
            obtain ⟨cnt, hcnt⟩ : ∃ cnt, Hid ((keep (fun x => nth same x.toNat != x) (rc.take i)).length = cnt) := ⟨_, rfl⟩
            rw [hcnt.out] at hkl ⊢
            clear hc8 hc4
            by_cases he : nth same (nth rc i).toNat = nth rc i
            · have hb := beq_t he
              have hl1 : (keep (fun x => nth same x.toNat != x) (rc.take (i + 1))).length = cnt + 1 := by rw [hks, bne_f he]; simp [hcnt.out]
              have HL1 := Lib.hid hl1
              rw [he] at q3
              clear he hks hl1
              go_wp2
              go_quiet (fail)
              go_wp2
              go_roundw
              case rel => exact ⟨i + 1, by omega, by go_num, by rw [HL1.out]; rfl, Ext.trans hxi (ext_drewN _ _)⟩
              case measure => (simp [intOf]; omega)
            · have hb := beq_f he
              have hl1 : (keep (fun x => nth same x.toNat != x) (rc.take (i + 1))).length = cnt := by rw [hks, bne_t he]; simp [hcnt.out]
              have HL1 := Lib.hid hl1
              clear he hks hl1
              go_wp2
              go_quiet (fail)
              go_wp2
              go_roundw
              case rel => exact ⟨i + 1, by omega, by go_num, by rw [HL1.out], Ext.trans hxi (ext_drewN _ _)⟩
              case measure => (simp [intOf]; omega)
          · obtain rfl : i = rc.length := by omega
            rw [List.take_length, HK.out]
            have HX2 := Lib.hid (Ext.trans HX.out hxi)
            obtain ⟨cnt, hcnt⟩ : ∃ cnt, Hid ((clsOf same ms m (nth (comps ms m) j)).length = cnt) := ⟨_, rfl⟩
            rw [hcnt.out]
            clear hxi
            rcases Int.le_total mx cnt with hle | hle
            · have hI2 : Hid (∀ t, t < j + 1 → ((clsOf same ms m (nth (comps ms m) t)).length : Int) ≤ cnt) := Lib.hid (fun t ht => by
                rcases Nat.lt_or_eq_of_le (Nat.le_of_lt_succ ht) with h' | rfl
                · exact Int.le_trans (hI.out t h') hle
                · rw [hcnt.out]; exact Int.le_refl _)
              clear hI
              go_wp2
              all_goals (
                go_roundg (vs.length - (j + 1))
                case rel => exact ⟨j + 1, cnt, Nat.le_refl _, by omega, by go_num, by first | rfl | (congr 1; omega), hI2, HX2.out⟩
                case measure => exact Nat.lt_of_lt_of_le (Nat.sub_lt_sub_left hjl (Nat.lt_succ_self j)) hgg)
            · have hI2 : Hid (∀ t, t < j + 1 → ((clsOf same ms m (nth (comps ms m) t)).length : Int) ≤ mx) := Lib.hid (fun t ht => by
                rcases Nat.lt_or_eq_of_le (Nat.le_of_lt_succ ht) with h' | rfl
                · exact hI.out t h'
                · rw [hcnt.out]; exact hle)
              clear hI
              go_wp2
              all_goals (
                go_roundg (vs.length - (j + 1))
                case rel => exact ⟨j + 1, mx, Nat.le_refl _, by omega, by go_num, by first | rfl | (congr 1; omega), hI2, HX2.out⟩
                case measure => exact Nat.lt_of_lt_of_le (Nat.sub_lt_sub_left hjl (Nat.lt_succ_self j)) hgg)
      · obtain rfl : j = vs.length := by omega
        go_wp2
        refine bodyPost_ret (v := .int .i64 mx) (by simp [results, Try.results22, go_sem]) rfl ⟨mx, rfl, Ext.trans hx1 hxr, fun _ => ⟨ms, hms, fun t ht => hI.out t (by rw [HL.out]; exact ht)⟩⟩

set_option maxRecDepth 100000 in
set_option maxHeartbeats 4000000 in
theorem lawLeast_any (A : Option Addr) (n c : Nat) (es : List E3) (A1 : Option Addr) (m c1 : Nat) (same : List Int) (A2 : Option Addr) (q c2 : Nat) (ps : List (Int × Int)) (A3 : Option Addr) (m3 c3 : Nat) (entity : List Int) (w : World)
    (h : REdges w A n es) (h1 : RInts w A1 m same) (h2 : RPairs w A2 q ps) (h3 : RInts w A3 m3 entity) :
    Calls Try.prog 5 #[.slice A n c, .slice A1 m c1, .slice A2 q c2, .slice A3 m3 c3] w fun e w' => e = .returned (.bool true) ∧ Ext w w' := by
  have hf := fun W => few_any A n c A1 m c1 A2 q c2 30 W h.big h1.big h2.big
  have hh := head_any
  by_cases hfew : (m : Int) ≤ 30 ∧ n ≤ 80 ∧ q ≤ 40
  · simp only [decide_eq_true hfew] at hf
    obtain ⟨f1, f2, f3⟩ := hfew
    obtain rfl := h.len
    obtain rfl := h1.len
    obtain rfl := h2.len
    obtain rfl := h3.len
    have ha := fun W (hW : Ext w W) => allowed_any A1 same.length c1 same A2 ps.length c2 ps A3 entity.length c3 entity W (h1.ext hW) (h2.ext hW) (h3.ext hW)
    cases hal : allowedB same ps entity with
    | false =>
      rw [hal] at ha
      go_enter Try.func5, Try.ntmps5
      go_wp2_with (first
        | (go_at_call 10; refine (hh _).mono ?_; rintro e w1 ⟨rfl, hx1⟩)
        | (go_at_call 11; refine (hf _).mono ?_; rintro e w2 ⟨rfl, rfl⟩)
        | (go_at_call 17; refine (ha _ hx1).mono ?_; rintro e w3 ⟨rfl, hx2⟩))
      go_ret
      exact ⟨rfl, Ext.trans hx1 hx2⟩
    | true =>
      rw [hal] at ha
      have hk := fun W (hW : Ext w W) => classes_any A es.length c es A1 same.length c1 same W (h.ext hW) (h1.ext hW)
      have hc := fun W (hW : Ext w W) => cluster_any A es.length c es A1 same.length c1 same A2 ps.length c2 ps W (h.ext hW) (h1.ext hW) (h2.ext hW) (by omega) (by omega)
      go_enter Try.func5, Try.ntmps5
      go_wp2_with (first
        | (go_at_call 10; refine (hh _).mono ?_; rintro e w1 ⟨rfl, hx1⟩)
        | (go_at_call 11; refine (hf _).mono ?_; rintro e w2 ⟨rfl, rfl⟩)
        | (go_at_call 17; refine (ha _ hx1).mono ?_; rintro e w3 ⟨rfl, hx2⟩; have hx3 := Ext.trans hx1 hx2)
        | (go_at_call 22; refine (hk _ hx3).mono ?_; rintro e w4 ⟨mx, rfl, hx4, hmx⟩; have hx5 := Ext.trans hx3 hx4))
      · go_ret
        exact ⟨rfl, hx5⟩
      · have hle : mx ≤ 8 := by omega
        have hc4 := hc _ hx5
        cases hg : goodB es same ps with
        | false =>
          simp only [hg, Bool.false_eq_true, if_false] at hc4
          refine hc4.mono ?_
          rintro e w5 ⟨v, k, rfl, hx6, rfl, rfl⟩
          go_wp2
          go_ret
          exact ⟨rfl, Ext.trans hx5 hx6⟩
        | true =>
          simp only [hg, if_true] at hc4
          obtain ⟨g1, g2, g3⟩ := good_split hg
          obtain ⟨ms, hms, hbd⟩ := hmx (by rw [g1, g2]; rfl)
          have hfewc : ∀ ms', MarksOf es same ms' → ∀ c ∈ comps ms' same.length, (clsOf same ms' same.length c).length ≤ 8 := fun ms' hms' c hcm => by
            have k1 : MarkOk same same.length (Adj (wTo es same es.length)) ms := hms
            have k2 : MarkOk same same.length (Adj (wTo es same es.length)) ms' := hms'
            obtain rfl := k1.uniq k2 Adj.symm'
            obtain ⟨t, ht, rfl⟩ := nth_of_mem hcm
            have := hbd t ht
            omega
          have HFC := Lib.hid hfewc
          clear hfewc hbd hmx hc hk ha hf hh
          refine hc4.mono ?_
          rintro e w5 ⟨v, k, rfl, hx6, rfl, ent, hcp, hrow⟩
          have p2 := cluster_least hg hcp hal HFC.out
          have hel : ent.length = same.length := by have := hrow.1; simpa using this
          have hx7 := Ext.trans hx5 hx6
          rw [← hel] at hrow
          obtain ⟨A4, c4, hv4, hr4⟩ := own_reads hrow (by omega)
          rw [hel] at hv4 hr4
          subst hv4
          have hk1 := cost_any A es.length c es A4 same.length c4 ent w5 (h.ext hx7) hr4
          clear hel hrow
          go_wp2_with (first
            | (go_at_call 15
               refine hk1.mono ?_
               clear hk1
               rintro e w6 ⟨rfl, hx8⟩
               have hx9 := Ext.trans hx7 hx8
               have hk2 := cost_any A es.length c es A3 entity.length c3 entity w6 (h.ext hx9) (h3.ext hx9))
            | (go_at_call 15
               refine hk2.mono ?_
               rintro e w7 ⟨rfl, hx10⟩))
          go_ret
          exact ⟨rfl, Ext.trans hx9 hx10⟩
  · simp only [decide_eq_false hfew] at hf
    go_enter Try.func5, Try.ntmps5
    go_wp2_with (first
      | (go_at_call 10; refine (hh _).mono ?_; rintro e w1 ⟨rfl, hx1⟩)
      | (go_at_call 11; refine (hf _).mono ?_; rintro e w2 ⟨rfl, rfl⟩))
    go_ret
    exact ⟨rfl, hx1⟩

end Go.Proofs.Ytiapdpbcnbgdmaa

set_option linter.unusedVariables false
set_option linter.unusedSimpArgs false
namespace Go.Proofs.Ytiapdpbcnbgdmaa
open Go.RowKit

theorem pairedB_bad {m : Int} {ps : List (Int × Int)} {n k : Nat} (hl : Hid (ps.length = n)) (hk : k < n) (h : badP m (pth ps k).1 (pth ps k).2 = true) : pairedB m ps = false := by
  rw [← Bool.not_eq_true, pairedB_all]
  intro h'
  have hk : k < ps.length := by rw [hl.out]; exact hk
  have ej : pth ps k = ps[k] := by simp [pth, List.getD_eq_getElem?_getD, List.getElem?_eq_getElem hk]
  rw [ej, h' _ (List.getElem_mem hk)] at h
  cases h
theorem pairedB_end {m : Int} {ps : List (Int × Int)} {n : Nat} (hl : Hid (ps.length = n)) (h : Hid (∀ i, i < n → badP m (pth ps i).1 (pth ps i).2 = false)) : pairedB m ps = true := by
  rw [pairedB_all]
  intro e he
  obtain ⟨j, hj, e1⟩ := List.getElem_of_mem he
  have ej : pth ps j = e := by simp [pth, List.getD_eq_getElem?_getD, List.getElem?_eq_getElem hj, e1]
  rw [← ej]
  exact h.out j (by rw [← hl.out]; exact hj)
set_option maxRecDepth 100000 in
set_option maxHeartbeats 4000000 in
theorem refPaired_any (m : Int) (A : Option Addr) (n c : Nat) (ps : List (Int × Int)) (w : World) (h : RPairs w A n ps) :
    Calls Try.prog 38 #[.int .i64 m, .slice A n c] w fun e w' => e = .returned (.bool (pairedB m ps)) ∧ Ext w w' := by
  have hbig := h.big
  have hl := Lib.hid h.len
  go_enter Try.func38, Try.ntmps38
  go_wp2
  go_loopw [5] (fun t wr => ∃ k : Nat, k ≤ n ∧ t = .int .i64 k ∧ Hid (∀ i, i < k → badP m (pth ps i).1 (pth ps i).2 = false) ∧ Ext w wr) (fun t _ => n - (intOf t).toNat)
  case atStart => exact ⟨0, Nat.zero_le _, rfl, Lib.hid (fun j hj => absurd hj (Nat.not_lt_zero _)), ⟨rfl, rfl, rfl, Nat.le_refl _, fun _ _ => rfl⟩⟩
  case round =>
    obtain ⟨k, hk, rfl, hI, hx⟩ := hrel
    by_cases hlt : k < n
    · obtain ⟨b, off, rfl, hcell⟩ := h.cell (by omega)
      have k1 := cell_ext hx (hcell k hlt).1
      have k2 := cell_ext hx (hcell k hlt).2
      have hbad := fun hb => pairedB_bad (m := m) hl hlt hb
      have hgood := fun hb => hid_succ (P := fun i => badP m (pth ps i).1 (pth ps i).2 = false) hI hb
      obtain ⟨pa, pb, hE⟩ : ∃ pa pb, Hid (pth ps k = (pa, pb)) := ⟨_, _, rfl⟩
      rw [hE.out] at k1 k2 hbad hgood
      dsimp only at k1 k2 hbad hgood
      clear hcell hI
      cases hA : decide (0 ≤ pa ∧ pa < m)
      · have hfin := Lib.hid (hbad (by unfold badP; simp only [decide_eq_false_iff_not] at hA; rw [decide_eq_true_iff]; omega))
        clear hbad hgood
        go_wp2_with (go_at_call 43; refine (record_any _ _ _).mono ?_; rintro e w2 ⟨rfl, rfl⟩; rw [hA])
        go_ret
        exact ⟨by rw [hfin.out]; rfl, hx⟩
      · cases hB : decide (0 ≤ pb ∧ pb < m)
        · have hfin := Lib.hid (hbad (by unfold badP; simp only [decide_eq_false_iff_not] at hB; rw [decide_eq_true_iff]; omega))
          clear hbad hgood
          go_wp2_with (go_at_call 43; refine (record_any _ _ _).mono ?_; rintro e w2 ⟨rfl, rfl⟩; first | rw [hA] | rw [hB])
          go_ret
          exact ⟨by rw [hfin.out]; rfl, hx⟩
        · have HI := hgood (by unfold badP; simp only [decide_eq_true_eq] at hA hB; rw [decide_eq_false_iff_not]; omega)
          clear hbad hgood
          go_wp2_with (go_at_call 43; refine (record_any _ _ _).mono ?_; rintro e w2 ⟨rfl, rfl⟩; first | rw [hA] | rw [hB])
          go_roundw
          case rel => exact ⟨k + 1, by omega, by go_num, HI, hx⟩
          case measure => (simp [intOf]; omega)
    · obtain rfl : k = n := by omega
      have hfin := Lib.hid (pairedB_end (m := m) hl hI)
      clear hI
      go_wp2
      go_ret
      exact ⟨by rw [hfin.out]; rfl, hx⟩
set_option maxRecDepth 100000 in
set_option maxHeartbeats 4000000 in
theorem refCost_any (A : Option Addr) (n c : Nat) (es : List E3) (A' : Option Addr) (n' c' : Nat) (xs : List Int) (w : World) (h : REdges w A n es) (h' : RInts w A' n' xs) :
    Calls Try.prog 16 #[.slice A n c, .slice A' n' c'] w fun e w' => e = .returned (.int .i64 (costTo es xs n)) ∧ Ext w w' := by
  have hbig := h.big
  have hbig' := h'.big
  have hxl := Lib.hid h'.len
  go_enter Try.func16, Try.ntmps16
  go_wp2
  go_loopw [5, 6, 7] (fun s t _ wr => ∃ k : Nat, k ≤ n ∧ t = .int .i64 k ∧ s = .int .i64 (costTo es xs k) ∧ Ext w wr) (fun _ t _ _ => n - (intOf t).toNat)
  case atStart => exact ⟨0, Nat.zero_le _, rfl, rfl, ⟨rfl, rfl, rfl, Nat.le_refl _, fun _ _ => rfl⟩⟩
  case round =>
    obtain ⟨k, hk, rfl, rfl, hx⟩ := hrel
    by_cases hlt : k < n
    · obtain ⟨b, off, rfl, hcell⟩ := h.cell (by omega)
      have k1 := cell_ext hx (hcell k hlt).1
      have k2 := cell_ext hx (hcell k hlt).2.1
      have k3 := cell_ext hx (hcell k hlt).2.2
      have hbl : b < wr.heap.size := World.block_lt_of_cell? _ _ k1
      have hstep : costTo es xs (k + 1) = costStep xs (costTo es xs k) (eth es k) := rfl
      obtain ⟨ea, eb, ew, hE⟩ : ∃ ea eb ew, Hid (eth es k = ⟨ea, eb, ew⟩) := ⟨_, _, _, rfl⟩
      rw [hE.out] at k1 k2 k3 hstep
      dsimp only at k1 k2 k3
      obtain ⟨s, hs⟩ : ∃ s, Hid (costTo es xs k = s) := ⟨_, rfl⟩
      rw [hs.out] at hstep ⊢
      unfold costStep inR at hstep
      rw [hxl.out] at hstep
      simp only at hstep
      have HS := Lib.hid hstep
      clear hcell hstep
      have hx0 := ext_alloc wr (.cells #[.int .i64 ea, .int .i64 eb, .int .i64 ew] 40)
      have hq0 := heap_alloc_new wr (.cells #[.int .i64 ea, .int .i64 eb, .int .i64 ew] 40)
      cases hA : decide (0 ≤ ea ∧ ea < (n' : Int))
      · have hval : costTo es xs (k + 1) = s := by
          rw [HS.out, if_neg (fun hh => by simp only [decide_eq_false_iff_not] at hA; exact hA ⟨hh.1, hh.2.1⟩)]
        have HV := Lib.hid hval
        clear hval hq0
        go_wp2_with (go_at_call 43; refine (record_any _ _ _).mono ?_; rintro e w2 ⟨rfl, rfl⟩; rw [hA])
        go_roundw
        case rel => exact ⟨k + 1, by omega, by go_num, by rw [HV.out], Ext.trans hx hx0⟩
        case measure => (simp [intOf]; omega)
      · cases hB : decide (0 ≤ eb ∧ eb < (n' : Int))
        · have hval : costTo es xs (k + 1) = s := by
            rw [HS.out, if_neg (fun hh => by simp only [decide_eq_false_iff_not] at hB; exact hB ⟨hh.2.2.1, hh.2.2.2⟩)]
          have HV := Lib.hid hval
          clear hval hq0
          go_wp2_with (go_at_call 43; refine (record_any _ _ _).mono ?_; rintro e w2 ⟨rfl, rfl⟩; first | rw [hA] | rw [hB])
          go_roundw
          case rel => exact ⟨k + 1, by omega, by go_num, by rw [HV.out], Ext.trans hx hx0⟩
          case measure => (simp [intOf]; omega)
        · have hA' : 0 ≤ ea ∧ ea < (n' : Int) := of_decide_eq_true hA
          have hB' : 0 ≤ eb ∧ eb < (n' : Int) := of_decide_eq_true hB
          obtain ⟨a0, a1⟩ := hA'
          obtain ⟨b0, b1⟩ := hB'
          have han : ((ea.toNat : Nat) : Int) = ea := Int.toNat_of_nonneg a0
          have hbn : ((eb.toNat : Nat) : Int) = eb := Int.toNat_of_nonneg b0
          obtain ⟨b', off', rfl, hcell'⟩ := h'.cell (by omega)
          have x1 := cell_ext hx0 (cell_ext hx (hcell' ea.toNat (by omega)))
          have x2 := cell_ext hx0 (cell_ext hx (hcell' eb.toNat (by omega)))
          obtain ⟨xa, hxa⟩ : ∃ xa, Hid (nth xs ea.toNat = xa) := ⟨_, rfl⟩
          obtain ⟨xb, hxb⟩ : ∃ xb, Hid (nth xs eb.toNat = xb) := ⟨_, rfl⟩
          rw [hxa.out] at x1
          rw [hxb.out] at x2
          have hval : costTo es xs (k + 1) = if xa = xb then (if ew < 0 then wrap64 (s - ew) else s) else (if 0 < ew then wrap64 (s + ew) else s) := by
            rw [HS.out, if_pos ⟨a0, a1, b0, b1⟩, hxa.out, hxb.out]
          have HV := Lib.hid hval
          clear hval hcell' hq0
          have hrng : -9223372036854775808 ≤ s ∧ s ≤ 9223372036854775807 := by rw [← hs.out]; exact costTo_range es xs k
          go_wp2_with (go_at_call 43; refine (record_any _ _ _).mono ?_; rintro e w2 ⟨rfl, rfl⟩; first | rw [hA] | rw [hB])
          obtain ⟨W0, hW0⟩ : ∃ W0, Hid (W0 = wr.alloc (.cells #[.int .i64 ea, .int .i64 eb, .int .i64 ew] 40)) := ⟨_, rfl⟩
          have hxw : Ext wr W0 := by rw [hW0.out]; exact hx0
          have hq0 : W0.heap[wr.heap.size]? = some (.cells #[.int .i64 ea, .int .i64 eb, .int .i64 ew] 40 (0, 0)) := by rw [hW0.out]; exact heap_alloc_new _ _
          have d0 : W0.cell? ⟨wr.heap.size, 0, none⟩ = some (.int .i64 ea) := (cells_of hq0 0 rfl).1
          have d1 : W0.cell? ⟨wr.heap.size, 1, none⟩ = some (.int .i64 eb) := (cells_of hq0 1 rfl).1
          have d2 : W0.cell? ⟨wr.heap.size, 2, none⟩ = some (.int .i64 ew) := (cells_of hq0 2 rfl).1
          rw [← hW0.out] at x1 x2 ⊢
          clear hq0 hx0 hA hB
          by_cases hq : xa = xb
          · have hb1 := bne_f hq
            have hb2 := beq_t hq
            by_cases hn : ew < 0
            · have hp : ¬ 0 < ew := by omega
              have e1 : decide (0 < ew) = false := decide_eq_false hp
              have e2 : decide (ew < 0) = true := decide_eq_true hn
              have hvv : costTo es xs (k + 1) = wrap64 (s - ew) := by rw [HV.out, if_pos hq, if_pos hn]
              have HVV := Lib.hid hvv
              clear hvv HV
              clear hp hn hq
              go_quiet (fail)
              go_wp2
              go_quiet (fail)
              go_wp2
              go_roundw
              case rel => exact ⟨k + 1, by omega, by go_num, by rw [HVV.out], Ext.trans (Ext.trans hx hxw) (ext_drewN _ _)⟩
              case measure => (simp [intOf]; omega)
            · have e2 : decide (ew < 0) = false := decide_eq_false hn
              have hvv : costTo es xs (k + 1) = s := by rw [HV.out, if_pos hq, if_neg hn]
              have HVV := Lib.hid hvv
              by_cases hp : 0 < ew
              · have e1 : decide (0 < ew) = true := decide_eq_true hp
                clear hvv HV
                clear hp hn hq
                go_quiet (fail)
                go_wp2
                go_quiet (fail)
                go_wp2
                go_roundw
                case rel => exact ⟨k + 1, by omega, by go_num, by rw [HVV.out], Ext.trans (Ext.trans hx hxw) (ext_drewN _ _)⟩
                case measure => (simp [intOf]; omega)
              · have e1 : decide (0 < ew) = false := decide_eq_false hp
                clear hvv HV
                clear hp hn hq
                go_quiet (fail)
                go_wp2
                go_quiet (fail)
                go_wp2
                go_roundw
                case rel => exact ⟨k + 1, by omega, by go_num, by rw [HVV.out], Ext.trans (Ext.trans hx hxw) (ext_drewN _ _)⟩
                case measure => (simp [intOf]; omega)
          · have hb1 := bne_t hq
            have hb2 := beq_f hq
            by_cases hp : 0 < ew
            · have hn : ¬ ew < 0 := by omega
              have e1 : decide (0 < ew) = true := decide_eq_true hp
              have e2 : decide (ew < 0) = false := decide_eq_false hn
              have hvv : costTo es xs (k + 1) = wrap64 (s + ew) := by rw [HV.out, if_neg hq, if_pos hp]
              have HVV := Lib.hid hvv
              clear hvv HV
              clear hp hn hq
              go_quiet (fail)
              go_wp2
              go_quiet (fail)
              go_wp2
              go_roundw
              case rel => exact ⟨k + 1, by omega, by go_num, by rw [HVV.out], Ext.trans (Ext.trans hx hxw) (ext_drewN _ _)⟩
              case measure => (simp [intOf]; omega)
            · have e1 : decide (0 < ew) = false := decide_eq_false hp
              have hvv : costTo es xs (k + 1) = s := by rw [HV.out, if_neg hq, if_neg hp]
              have HVV := Lib.hid hvv
              by_cases hn : ew < 0
              · have e2 : decide (ew < 0) = true := decide_eq_true hn
                clear hvv HV
                clear hp hn hq
                go_quiet (fail)
                go_wp2
                go_quiet (fail)
                go_wp2
                go_roundw
                case rel => exact ⟨k + 1, by omega, by go_num, by rw [HVV.out], Ext.trans (Ext.trans hx hxw) (ext_drewN _ _)⟩
                case measure => (simp [intOf]; omega)
              · have e2 : decide (ew < 0) = false := decide_eq_false hn
                clear hvv HV
                clear hp hn hq
                go_quiet (fail)
                go_wp2
                go_quiet (fail)
                go_wp2
                go_roundw
                case rel => exact ⟨k + 1, by omega, by go_num, by rw [HVV.out], Ext.trans (Ext.trans hx hxw) (ext_drewN _ _)⟩
                case measure => (simp [intOf]; omega)
    · obtain rfl : k = n := by omega
      go_wp2
      go_ret
      exact ⟨rfl, hx⟩

end Go.Proofs.Ytiapdpbcnbgdmaa

set_option linter.unusedVariables false
set_option linter.unusedSimpArgs false
namespace Go.Proofs.Ytiapdpbcnbgdmaa
open Go.RowKit

set_option maxRecDepth 100000 in
set_option maxHeartbeats 4000000 in
theorem refAllowed_any (A1 : Option Addr) (m c1 : Nat) (same : List Int) (A2 : Option Addr) (q c2 : Nat) (ps : List (Int × Int)) (A3 : Option Addr) (m3 c3 : Nat) (entity : List Int) (w : World) (h1 : RInts w A1 m same) (h2 : RPairs w A2 q ps) (h3 : RInts w A3 m3 entity) :
    Calls Try.prog 18 #[.slice A1 m c1, .slice A2 q c2, .slice A3 m3 c3] w fun e w' => e = .returned (.bool (allowedB same ps entity)) ∧ Ext w w' := by
  have hl1 := h1.len
  have hl2 := h2.len
  have hl3 := h3.len
  have hbg1 := h1.big
  have hbg2 := h2.big
  have hbg3 := h3.big
  have hc1 := refValid_any A1 m c1 same w h1
  have hc2 := fun W (hW : Ext w W) => refPaired_any m A2 q c2 ps W (h2.ext hW)
  unfold allowedB
  rw [hl1, hl2, hl3]
  cases hv : validB same with
  | false =>
    rw [hv] at hc1
    clear hl1 hl2 hl3
    go_enter Try.func18, Try.ntmps18
    go_wp2_with (go_at_call 36; refine hc1.mono ?_; rintro e w1 ⟨rfl, hx1⟩)
    go_ret
    exact ⟨rfl, hx1⟩
  | true =>
    rw [hv] at hc1
    rw [Bool.true_and]
    cases hp : pairedB m ps with
    | false =>
      rw [hp] at hc2
      clear hl1 hl2 hl3
      go_enter Try.func18, Try.ntmps18
      go_wp2_with (first | (go_at_call 36; refine hc1.mono ?_; rintro e w1 ⟨rfl, hx1⟩) | (go_at_call 38; refine (hc2 _ hx1).mono ?_; rintro e w2 ⟨rfl, hx2⟩))
      go_ret
      exact ⟨rfl, Ext.trans hx1 hx2⟩
    | true =>
      rw [hp] at hc2
      rw [Bool.true_and]
      by_cases hlm : m3 = m
      · subst hlm
        have hc3 := fun W (hW : Ext w W) => refValid_any A3 m3 c3 entity W (h3.ext hW)
        rw [decide_eq_true (rfl : m3 = m3), Bool.true_and]
        have HL1 := Lib.hid hl1
        have HL2 := Lib.hid hl2
        have HL3 := Lib.hid hl3
        clear hl1 hl2 hl3
        cases hv3 : validB entity with
        | false =>
          rw [hv3] at hc3
          go_enter Try.func18, Try.ntmps18
          go_wp2_with (first | (go_at_call 36; refine (hc3 _ hx12).mono ?_; rintro e w3 ⟨rfl, hx3⟩) | (go_at_call 36; refine hc1.mono ?_; rintro e w1 ⟨rfl, hx1⟩) | (go_at_call 38; refine (hc2 _ hx1).mono ?_; rintro e w2 ⟨rfl, hx2⟩; have hx12 := Ext.trans hx1 hx2))
          go_ret
          exact ⟨rfl, Ext.trans hx12 hx3⟩
        | true =>
          rw [hv3] at hc3
          rw [Bool.true_and]
          have hvv := validB_good hv
          have hgood := pairedB_good HL2.out hp
          have hsr : ∀ i, i < m3 → 0 ≤ nth same i ∧ nth same i < m3 := fun i hi => by
            obtain ⟨k1, k2, _⟩ := hvv.1 i (by rw [HL1.out]; exact hi)
            exact ⟨k1, by omega⟩
          go_enter Try.func18, Try.ntmps18
          go_wp2_with (first | (go_at_call 36; refine (hc3 _ hx12).mono ?_; rintro e w3 ⟨rfl, hx3⟩) | (go_at_call 36; refine hc1.mono ?_; rintro e w1 ⟨rfl, hx1⟩) | (go_at_call 38; refine (hc2 _ hx1).mono ?_; rintro e w2 ⟨rfl, hx2⟩; have hx12 := Ext.trans hx1 hx2))
          have hx123 := Ext.trans hx12 hx3
          clear hc1 hc2 hc3 hvv
          go_loopw [7] (fun t wr => ∃ i : Nat, i ≤ m3 ∧ t = .int .i64 i ∧ Hid (∀ k, k < i → nth entity k = nth entity (nth same k).toNat) ∧ Ext w wr) (fun t _ => m3 - (intOf t).toNat)
          case atStart => exact ⟨0, Nat.zero_le _, rfl, Lib.hid (fun k hk => absurd hk (Nat.not_lt_zero _)), hx123⟩
          case round =>
            obtain ⟨i, hi, rfl, hI, hx⟩ := hrel
            by_cases hil : i < m3
            · obtain ⟨b1, o1, rfl, hcc1⟩ := h1.cell (by omega)
              obtain ⟨b3, o3, rfl, hcc3⟩ := h3.cell (by omega)
              obtain ⟨s0, s1⟩ := hsr i hil
              have hsn : (((nth same i).toNat : Nat) : Int) = nth same i := Int.toNat_of_nonneg s0
              have q1 := cell_ext hx (hcc1 i hil)
              have q2 := cell_ext hx (hcc3 i hil)
              have q3 := cell_ext hx (hcc3 (nth same i).toNat (by omega))
              clear hcc1 hcc3
              by_cases he : nth entity i = nth entity (nth same i).toNat
              · have hb := bne_f he
                have HI := hid_succ hI he
                clear hI he
                go_wp2
                go_quiet (fail)
                go_wp2
                go_roundw
                case rel => exact ⟨i + 1, by omega, by go_num, HI, Ext.trans hx (ext_drewN _ _)⟩
                case measure => (simp [intOf]; omega)
              · have hb := bne_t he
                have hfin := Lib.hid (sameB_bad hil he)
                clear hI he
                go_wp2
                go_quiet (fail)
                go_wp2
                go_ret
                exact ⟨by rw [hfin.out]; rfl, Ext.trans hx (ext_drewN _ _)⟩
            · obtain rfl : i = m3 := by omega
              have hsb := Lib.hid (sameB_end hI)
              clear hI
              go_wp2
              go_loopw [8, 9, 10] (fun t _ _ wx => ∃ j : Nat, j ≤ q ∧ t = .int .i64 j ∧ Hid (∀ k, k < j → clashP same entity (pth ps k).1 (pth ps k).2 = false) ∧ Ext w wx) (fun t _ _ _ => q - (intOf t).toNat)
              case atStart => exact ⟨0, Nat.zero_le _, rfl, Lib.hid (fun k hk => absurd hk (Nat.not_lt_zero _)), hx⟩
              case round =>
                obtain ⟨j, hj, rfl, hJ, hxx⟩ := hrel
                by_cases hjl : j < q
                · obtain ⟨b2, o2, rfl, hcc2⟩ := h2.cell (by omega)
                  have hm0 : 0 < i := by have := (hgood j hjl).1; have := (hgood j hjl).2.1; omega
                  obtain ⟨b1, o1, rfl, hcc1⟩ := h1.cell hm0
                  obtain ⟨b3, o3, rfl, hcc3⟩ := h3.cell hm0
                  have k1 := cell_ext hxx (hcc2 j hjl).1
                  have k2 := cell_ext hxx (hcc2 j hjl).2
                  have hany : clashP same entity (pth ps j).1 (pth ps j).2 = true → ((List.range q).any fun k => clashP same entity (pth ps k).1 (pth ps k).2) = true := fun hh => List.any_eq_true.2 ⟨j, List.mem_range.2 hjl, hh⟩
                  have hnext := fun hh => hid_succ (P := fun k => clashP same entity (pth ps k).1 (pth ps k).2 = false) hJ hh
                  obtain ⟨a0, a1, b0, b1'⟩ := hgood j hjl
                  obtain ⟨pa, pb, hE⟩ : ∃ pa pb, Hid (pth ps j = (pa, pb)) := ⟨_, _, rfl⟩
                  rw [hE.out] at k1 k2 hany hnext a0 a1 b0 b1'
                  dsimp only at k1 k2 hany hnext a0 a1 b0 b1'
                  have han : ((pa.toNat : Nat) : Int) = pa := Int.toNat_of_nonneg a0
                  have hbn : ((pb.toNat : Nat) : Int) = pb := Int.toNat_of_nonneg b0
                  have q1 := cell_ext hxx (hcc1 pa.toNat (by omega))
                  have q2 := cell_ext hxx (hcc1 pb.toNat (by omega))
                  have q3 := cell_ext hxx (hcc3 pa.toNat (by omega))
                  have q4 := cell_ext hxx (hcc3 pb.toNat (by omega))
                  clear hcc1 hcc2 hcc3 hJ
                  unfold clashP at hany hnext
                  by_cases e1 : nth same pa.toNat = nth same pb.toNat
                  · have hb1 := bne_f e1
                    have HI := hnext (decide_eq_false (fun h => h.1 e1))
                    clear hany hnext e1
                    go_wp2
                    go_quiet (fail)
                    go_wp2
                    go_roundw
                    case rel => exact ⟨j + 1, by omega, by go_num, HI, Ext.trans hxx (ext_drewN _ _)⟩
                    case measure => (simp [intOf]; omega)
                  · have hb1 := bne_t e1
                    by_cases e2 : nth entity pa.toNat = nth entity pb.toNat
                    · have hb2 := beq_t e2
                      have HA := Lib.hid (hany (decide_eq_true ⟨e1, e2⟩))
                      clear hany hnext e1 e2
                      go_wp2
                      go_quiet (fail)
                      go_wp2
                      go_ret
                      exact ⟨by rw [hsb.out]; exact ret_bool (by have := HA.out; unfold clashP at this ⊢; rw [this]; rfl), Ext.trans hxx (ext_drewN _ _)⟩
                    · have hb2 := beq_f e2
                      have HI := hnext (decide_eq_false (fun h => e2 h.2))
                      clear hany hnext e1 e2
                      go_wp2
                      go_quiet (fail)
                      go_wp2
                      go_roundw
                      case rel => exact ⟨j + 1, by omega, by go_num, HI, Ext.trans hxx (ext_drewN _ _)⟩
                      case measure => (simp [intOf]; omega)
                · obtain rfl : j = q := by omega
                  have hfin : ((List.range j).any fun k => clashP same entity (pth ps k).1 (pth ps k).2) = false := by
                    rw [List.any_eq_false]
                    intro k hk
                    rw [hJ.out k (List.mem_range.1 hk)]; simp
                  have HF := Lib.hid hfin
                  clear hfin hJ
                  go_wp2
                  go_ret
                  exact ⟨by rw [hsb.out, HF.out]; rfl, hxx⟩
      · have hne : decide (m3 = m) = false := decide_eq_false hlm
        rw [hne]
        have hnb : ((m3 : Int) != m) = true := bne_t (by omega)
        clear hl1 hl2 hl3
        go_enter Try.func18, Try.ntmps18
        go_wp2_with (first | (go_at_call 36; refine hc1.mono ?_; rintro e w1 ⟨rfl, hx1⟩) | (go_at_call 38; refine (hc2 _ hx1).mono ?_; rintro e w2 ⟨rfl, hx2⟩))
        go_ret
        exact ⟨rfl, Ext.trans hx1 hx2⟩

end Go.Proofs.Ytiapdpbcnbgdmaa

set_option linter.unusedVariables false
set_option linter.unusedSimpArgs false
namespace Go.Proofs.Ytiapdpbcnbgdmaa
open Go.RowKit

set_option maxRecDepth 100000 in
set_option maxHeartbeats 4000000 in
theorem lists_any {w : World} {s1 s2 : Nat} {v1 v2 : Value} {vs1 vs2 : List Value} {gs : List (List Int)} (F1 : Fam w s1 v1 vs1 gs) (F2 : Fam w s2 v2 vs2 gs) (hL : gs.length ≤ 2000) (hg : ∀ g ∈ gs, g.length ≤ 2000) :
    Calls Try.prog 19 #[v1, v2] w fun e w' => e = .returned (.bool true) ∧ Ext w w' := by
  obtain ⟨A1, d1, rfl, h1⟩ := own_slice F1.out
  obtain ⟨A2, d2, rfl, h2⟩ := own_slice F2.out
  obtain ⟨L, hLL⟩ : ∃ L, gs.length = L := ⟨_, rfl⟩
  have hl1 := F1.len
  have hl2 := F2.len
  rw [hLL] at hl1 hl2 hL
  rw [hl1] at h1 ⊢
  rw [hl2] at h2 ⊢
  have H1 := Lib.hid hl1
  have H2 := Lib.hid hl2
  have HL := Lib.hid hLL
  clear hl1 hl2 hLL
  go_enter Try.func19, Try.ntmps19
  go_wp2
  go_loopw [5] (fun t wr => ∃ j : Nat, j ≤ L ∧ t = .int .i64 j ∧ Ext w wr) (fun t _ => L - (intOf t).toNat)
  case atStart => exact ⟨0, Nat.zero_le _, rfl, ⟨rfl, rfl, rfl, Nat.le_refl _, fun _ _ => rfl⟩⟩
  case round =>
    obtain ⟨j, hj, rfl, hx⟩ := hrel
    by_cases hjl : j < L
    · obtain ⟨g1, rfl, -, -⟩ := h1 (by omega)
      obtain ⟨g2, rfl, -, -⟩ := h2 (by omega)
      obtain ⟨u1, hu1⟩ : ∃ u, vs1[j]? = some u := ⟨_, List.getElem?_eq_getElem (by rw [H1.out]; exact hjl)⟩
      obtain ⟨u2, hu2⟩ : ∃ u, vs2[j]? = some u := ⟨_, List.getElem?_eq_getElem (by rw [H2.out]; exact hjl)⟩
      have hjg : j < gs.length := by rw [HL.out]; exact hjl
      obtain ⟨rc, hrc⟩ : ∃ rc, gs[j]? = some rc := ⟨_, List.getElem?_eq_getElem hjg⟩
      have hrl := hg rc (List.mem_of_getElem? hrc)
      obtain ⟨A8, c8, rfl, hr8⟩ := own_reads (F1.row j u1 rc hu1 hrc) (by omega)
      obtain ⟨A9, c9, rfl, hr9⟩ := own_reads (F2.row j u2 rc hu2 hrc) (by omega)
      have k1' := own_at_row F1.out j _ hu1
      have k2' := own_at_row F2.out j _ hu2
      have hxw := Ext.trans hx (ext_drew wr)
      have k1 := cell_ext hxw k1'
      have k2 := cell_ext hxw k2'
      clear k1' k2' hu1 hu2 hrc
      go_wp2
      refine wp_region_flow 33 [] (fun _ W => Ext wr.drew W) (by kernel_rfl) (by kernel_rfl) ⟨rfl, rfl, rfl, Nat.le_refl _, fun _ _ => rfl⟩ ?_
      simp only [List.take_succ_cons, List.take_zero, List.drop_succ_cons, List.drop_zero]
      refine flow_pure (.slice (some ⟨g1, 0, none⟩) L d1) rfl rfl (fun bq W hW => by simp [go_sem]) ?_
      refine flow_pure (.int .i64 j) rfl rfl (fun bq W hW => by simp [go_sem]) ?_
      refine flow_pure (.pointer (some ⟨g1, j, none⟩)) rfl rfl (fun bq W hW => by simp [go_sem, hjl]) ?_
      refine flow_pure (.slice A8 rc.length c8) rfl rfl (fun bq W hW => by simp [go_sem, cell_ext hW k1]) ?_
      refine flow_pure (.int .i64 (rc.length : Nat)) rfl rfl (fun bq W hW => by simp [go_sem]) ?_
      refine flow_pure (.slice (some ⟨g2, 0, none⟩) L d2) rfl rfl (fun bq W hW => by simp [go_sem]) ?_
      refine flow_pure (.int .i64 j) rfl rfl (fun bq W hW => by simp [go_sem]) ?_
      refine flow_pure (.pointer (some ⟨g2, j, none⟩)) rfl rfl (fun bq W hW => by simp [go_sem, hjl]) ?_
      refine flow_pure (.slice A9 rc.length c9) rfl rfl (fun bq W hW => by simp [go_sem, cell_ext hW k2]) ?_
      refine flow_pure (.int .i64 (rc.length : Nat)) rfl rfl (fun bq W hW => by simp [go_sem]) ?_
      refine flow_pure (.bool false) rfl rfl (fun bq W hW => by simp [go_sem, bne_self_eq_false]) ?_
      refine flow_pure (.bool false) rfl rfl (fun bq W hW => by simp [go_sem]) ?_
      refine flow_want (.slice (some ⟨g1, 0, none⟩) L d1) (by kernel_rfl) rfl (fun bq W hW => by simp [go_sem]) ?_
      refine flow_want (.int .i64 j) (by kernel_rfl) rfl (fun bq W hW => by simp [go_sem]) ?_
      refine flow_want (.pointer (some ⟨g1, j, none⟩)) (by kernel_rfl) rfl (fun bq W hW => by simp [go_sem, hjl]) ?_
      refine flow_want (.slice A8 rc.length c8) (by kernel_rfl) rfl (fun bq W hW => by simp [go_sem, cell_ext hW k1]) ?_
      refine flow_want (.slice (some ⟨g2, 0, none⟩) L d2) (by kernel_rfl) rfl (fun bq W hW => by simp [go_sem]) ?_
      refine flow_want (.int .i64 j) (by kernel_rfl) rfl (fun bq W hW => by simp [go_sem]) ?_
      refine flow_want (.pointer (some ⟨g2, j, none⟩)) (by kernel_rfl) rfl (fun bq W hW => by simp [go_sem, hjl]) ?_
      refine flow_want (.slice A9 rc.length c9) (by kernel_rfl) rfl (fun bq W hW => by simp [go_sem, cell_ext hW k2]) ?_
      refine flow_call_want (.bool false) 42 #[.slice A8 rc.length c8, .slice A9 rc.length c9] (by kernel_rfl) rfl (fun bq W hW => by simp [go_sem]) (fun bq W hW => (less_any A8 rc.length c8 rc A9 c9 rc W (hr8.ext (Ext.trans hxw hW)) (hr9.ext (Ext.trans hxw hW))).mono (by rintro e W' ⟨rfl, hx⟩; exact ⟨by rw [lessB_self], Ext.trans hW hx⟩)) ?_
      refine flow_pure (.bool false) rfl rfl (fun bq W hW => by simp [go_sem]) ?_
      refine flow_pure (.bool false) rfl rfl (fun bq W hW => by simp [go_sem]) ?_
      refine flow_want (.slice (some ⟨g2, 0, none⟩) L d2) (by kernel_rfl) rfl (fun bq W hW => by simp [go_sem]) ?_
      refine flow_want (.int .i64 j) (by kernel_rfl) rfl (fun bq W hW => by simp [go_sem]) ?_
      refine flow_want (.pointer (some ⟨g2, j, none⟩)) (by kernel_rfl) rfl (fun bq W hW => by simp [go_sem, hjl]) ?_
      refine flow_want (.slice A9 rc.length c9) (by kernel_rfl) rfl (fun bq W hW => by simp [go_sem, cell_ext hW k2]) ?_
      refine flow_want (.slice (some ⟨g1, 0, none⟩) L d1) (by kernel_rfl) rfl (fun bq W hW => by simp [go_sem]) ?_
      refine flow_want (.int .i64 j) (by kernel_rfl) rfl (fun bq W hW => by simp [go_sem]) ?_
      refine flow_want (.pointer (some ⟨g1, j, none⟩)) (by kernel_rfl) rfl (fun bq W hW => by simp [go_sem, hjl]) ?_
      refine flow_want (.slice A8 rc.length c8) (by kernel_rfl) rfl (fun bq W hW => by simp [go_sem, cell_ext hW k1]) ?_
      refine flow_call_want (.bool false) 42 #[.slice A9 rc.length c9, .slice A8 rc.length c8] (by kernel_rfl) rfl (fun bq W hW => by simp [go_sem]) (fun bq W hW => (less_any A9 rc.length c9 rc A8 c8 rc W (hr9.ext (Ext.trans hxw hW)) (hr8.ext (Ext.trans hxw hW))).mono (by rintro e W' ⟨rfl, hx⟩; exact ⟨by rw [lessB_self], Ext.trans hW hx⟩)) ?_
      refine flow_pure (.bool false) rfl rfl (fun bq W hW => by simp [go_sem]) ?_
      refine flow_nil fun W hW => ?_
      go_frame
      go_wp2
      go_roundw
      case rel => exact ⟨j + 1, by omega, by go_num, Ext.trans hxw hW⟩
      case measure => (simp [intOf]; omega)
    · obtain rfl : j = L := by omega
      go_wp2
      go_ret
      exact ⟨rfl, hx⟩

end Go.Proofs.Ytiapdpbcnbgdmaa

import Derived.Test.YtiapdpbcnbgdmaaPq
set_option linter.unusedVariables false
set_option linter.unusedSimpArgs false
namespace Go.Proofs.Ytiapdpbcnbgdmaa
open Go.RowKit

/-! THE LAW 'Components'. -/
theorem sum_filter' {α : Type} (P : α → Bool) (f : α → Int) : ∀ l : List α, ((l.filter P).map f).sum = (l.map fun x => if P x = true then f x else 0).sum
  | [] => rfl
  | x :: l => by
    rw [List.filter_cons, List.map_cons, List.sum_cons, ← sum_filter' P f l]
    by_cases h : P x = true
    · rw [if_pos h, if_pos h, List.map_cons, List.sum_cons]
    · rw [if_neg h, if_neg h]; omega
theorem len_sum {α : Type} (P : α → Bool) : ∀ l : List α, ((l.filter P).length : Int) = (l.map fun x => if P x = true then (1 : Int) else 0).sum
  | [] => rfl
  | x :: l => by
    rw [List.filter_cons, List.map_cons, List.sum_cons, ← len_sum P l]
    by_cases h : P x = true
    · rw [if_pos h, if_pos h, List.length_cons]; omega
    · rw [if_neg h, if_neg h]; omega
theorem sum_ones : ∀ m : Nat, ((List.range m).map fun _ => (1 : Int)).sum = m
  | 0 => rfl
  | m + 1 => by rw [List.range_succ, List.map_append, List.sum_append, sum_ones m]; simp
def cntTo (ms : List Int) (m : Nat) : Nat → Int
  | 0 => 0
  | j + 1 => cntTo ms m j + (recs ms m (nth (comps ms m) j)).length
theorem cntTo_sum {ms : List Int} {m : Nat} : ∀ j, j ≤ (comps ms m).length → cntTo ms m j = (((comps ms m).take j).map fun c => ((recs ms m c).length : Int)).sum
  | 0, _ => rfl
  | j + 1, h => by
    rw [cntTo, cntTo_sum j (by omega), List.take_succ_eq_append_getElem (show j < (comps ms m).length by omega), List.map_append, List.sum_append]
    have e : nth (comps ms m) j = (comps ms m)[j] := by simp [nth, List.getD_eq_getElem?_getD, List.getElem?_eq_getElem (show j < (comps ms m).length by omega)]
    rw [e]
    simp
theorem MarkOk.count {same ms : List Int} {m : Nat} {R : Int → Int → Prop} (K : MarkOk same m R ms) (hs : ∀ a b, R a b → R b a) : cntTo ms m (comps ms m).length = m := by
  rw [cntTo_sum _ (Nat.le_refl _), List.take_length]
  have h1 : ((comps ms m).map fun c => ((recs ms m c).length : Int)).sum = ((comps ms m).map fun c => ((List.range m).map fun i => if nth ms i = c then (1 : Int) else 0).sum).sum := by
    refine sum_congr fun c _ => ?_
    unfold recs ixs
    rw [List.length_map, len_sum]
    refine sum_congr fun i _ => ?_
    simp only [decide_eq_true_eq]
  rw [h1, sum_swap, ← sum_ones m]
  refine sum_congr fun i hi => ?_
  have hi := List.mem_range.1 hi
  obtain ⟨k1, _⟩ := K.2 i hi
  have hm : nth ms i ∈ comps ms m := mem_comps.2 ⟨k1.1, k1.2.1, K.self hs hi⟩
  rw [sum_congr (g := fun c => if c = nth ms i then 1 else 0) (fun c _ => ?_), sum_single (show (comps ms m).Nodup from nodup_ixs _ _) hm]
  by_cases e : c = nth ms i
  · rw [if_pos e, if_pos e.symm]
  · rw [if_neg e, if_neg (Ne.symm e)]
theorem cntTo_le {ms : List Int} {m : Nat} : ∀ j, 0 ≤ cntTo ms m j
  | 0 => Int.le_refl _
  | j + 1 => by rw [cntTo]; have := cntTo_le (ms := ms) (m := m) j; omega
theorem cntTo_mono {ms : List Int} {m : Nat} (j : Nat) : ∀ d, cntTo ms m j ≤ cntTo ms m (j + d)
  | 0 => Int.le_refl _
  | d + 1 => by have := cntTo_mono (ms := ms) (m := m) j d; rw [show j + (d + 1) = (j + d) + 1 from rfl, cntTo]; omega
def keptE (ms : List Int) (e : E3) : Bool := decide (nth ms e.a.toNat = nth ms e.b.toNat)
theorem cluster_components {es : List E3} {same ms : List Int} {ps : List (Int × Int)} {a b : List Int} (hg : goodB es same ps = true) (hm : MarksOf es same ms) (ha : ClusterP es same ps a) :
    goodB (es.filter (keptE ms)) same ps = true ∧ ∀ b, ClusterP (es.filter (keptE ms)) same ps b → a = b := by
  have F := good_facts hg
  have hmk : MarkOk same same.length (Adj (wTo es same es.length)) ms := hm
  obtain ⟨g1, g2, g3⟩ := good_split hg
  have hrange : ∀ e ∈ es, 0 ≤ e.a ∧ e.a < same.length ∧ 0 ≤ e.b ∧ e.b < same.length := fun e he => by
    obtain ⟨j, hj, e1⟩ := List.getElem_of_mem he
    have := (F.e.1 j hj).1
    have ej : eth es j = e := by simp [eth, List.getD_eq_getElem?_getD, List.getElem?_eq_getElem hj, e1]
    rw [ej] at this
    exact this
  have hg' : goodB (es.filter (keptE ms)) same ps = true := by
    have : linkedB same.length (es.filter (keptE ms)) = true := by
      rw [linkedB_all] at g2 ⊢
      exact ⟨Nat.le_trans (List.length_filter_le _ _) g2.1, fun e he => g2.2 e (List.mem_filter.1 he).1⟩
    unfold goodB
    rw [g1, this, g3]; rfl
  have hkey : ∀ e ∈ es, ∀ p, keyB same p e = true → (keptE ms e = true ↔ nth ms p.1.toNat = nth ms p.2.toNat) := fun e he p hk => by
    obtain ⟨r1, r2, r3, r4⟩ := hrange e he
    unfold keyB at hk
    rw [decide_eq_true_iff] at hk
    obtain ⟨_, rfl⟩ := hk
    have ea := hmk.same_eq Adj.symm' F.v rfl (i := e.a.toNat) (by omega)
    have eb := hmk.same_eq Adj.symm' F.v rfl (i := e.b.toNat) (by omega)
    unfold keptE
    rw [decide_eq_true_iff, ← ea, ← eb]
    simp only
    rcases Int.le_total (nth same e.a.toNat) (nth same e.b.toNat) with h | h
    · rw [Int.min_eq_left h, Int.max_eq_right h]
    · rw [Int.min_eq_right h, Int.max_eq_left h]; exact eq_comm
  have hW : ∀ p, nth ms p.1.toNat = nth ms p.2.toNat → wTo (es.filter (keptE ms)) same (es.filter (keptE ms)).length p = wTo es same es.length p := fun p hp => by
    rw [wTo_all, wTo_all]
    have h1 : (es.filter (keptE ms)).any (keyB same p) = es.any (keyB same p) := by
      rw [Bool.eq_iff_iff, List.any_eq_true, List.any_eq_true]
      constructor
      · rintro ⟨e, he, hk⟩; exact ⟨e, (List.mem_filter.1 he).1, hk⟩
      · rintro ⟨e, he, hk⟩; exact ⟨e, List.mem_filter.2 ⟨he, (hkey e he p hk).2 hp⟩, hk⟩
    have h2 : ((es.filter (keptE ms)).map (valK same p)).sum = (es.map (valK same p)).sum := by
      rw [sum_filter']
      refine sum_congr fun e he => ?_
      by_cases hk : keyB same p e = true
      · rw [if_pos ((hkey e he p hk).2 hp)]
      · have : valK same p e = 0 := by unfold valK; rw [if_neg hk]
        rw [this, ite_self]
    rw [h1, h2]
  have hN : ∀ p, nth ms p.1.toNat ≠ nth ms p.2.toNat → wTo (es.filter (keptE ms)) same (es.filter (keptE ms)).length p = none := fun p hp => by
    rw [wTo_all, if_neg]
    rw [List.any_eq_true]
    rintro ⟨e, he, hk⟩
    obtain ⟨he, hke⟩ := List.mem_filter.1 he
    exact hp ((hkey e he p hk).1 hke)
  refine ⟨hg', fun b hb => ?_⟩
  refine cluster_same F (good_facts hg') (fun x y => ?_) ha hb fun ms' hd hm' A he c hc hs h hv => ?_
  · constructor
    · intro hxy
      obtain ⟨z, hz, h⟩ := hxy
      have hms : nth ms x.toNat = nth ms y.toNat := by
        rcases h with h | h
        · have := F.wc _ _ h; exact hmk.adj this.1 this.2.1 ⟨z, hz, .inl h⟩
        · have := F.wc _ _ h; exact hmk.adj this.2.1 this.1 ⟨z, hz, .inr h⟩
      refine ⟨z, hz, ?_⟩
      rw [hW (x, y) hms, hW (y, x) hms.symm]; exact h
    · rintro ⟨z, hz, h⟩
      refine ⟨z, hz, ?_⟩
      rcases h with h | h
      · left
        by_cases hms : nth ms x.toNat = nth ms y.toNat
        · rw [← hW (x, y) hms]; exact h
        · rw [hN (x, y) hms] at h; cases h
      · right
        by_cases hms : nth ms y.toNat = nth ms x.toNat
        · rw [← hW (y, x) hms]; exact h
        · rw [hN (y, x) hms] at h; cases h
  · have hmk' : MarkOk same same.length (Adj (wTo es same es.length)) ms' := hm'
    obtain rfl := hmk.uniq hmk' Adj.symm'
    refine h.weights fun a ha b hb => ?_
    rw [hW (a, b) ((mem_cls.1 ha).2.2.1.trans (mem_cls.1 hb).2.2.1.symm)]
/-- the number of a record's component -/
def cidx (ms : List Int) (m x : Nat) : Nat := (comps ms m).idxOf (nth ms x)
theorem cidx_spec {same ms : List Int} {m : Nat} {R : Int → Int → Prop} (K : MarkOk same m R ms) (hs : ∀ a b, R a b → R b a) {x : Nat} (hx : x < m) : cidx ms m x < (comps ms m).length ∧ nth (comps ms m) (cidx ms m x) = nth ms x := by
  obtain ⟨k1, _⟩ := K.2 x hx
  have hm : nth ms x ∈ comps ms m := mem_comps.2 ⟨k1.1, k1.2.1, K.self hs hx⟩
  have hlt : cidx ms m x < (comps ms m).length := List.idxOf_lt_length_of_mem hm
  refine ⟨hlt, ?_⟩
  unfold nth
  rw [List.getD_eq_getElem?_getD, List.getElem?_eq_getElem hlt]
  exact List.getElem_idxOf hlt
theorem cidx_of {same ms : List Int} {m : Nat} {R : Int → Int → Prop} (K : MarkOk same m R ms) (hs : ∀ a b, R a b → R b a) {x j : Nat} (hx : x < m) (hj : j < (comps ms m).length) (h : nth ms x = nth (comps ms m) j) : cidx ms m x = j := by
  obtain ⟨h1, h2⟩ := cidx_spec K hs hx
  exact nth_inj (nodup_ixs _ _) h1 hj (h2.trans h)
theorem cidx_inj {same ms : List Int} {m : Nat} {R : Int → Int → Prop} (K : MarkOk same m R ms) (hs : ∀ a b, R a b → R b a) {x y : Nat} (hx : x < m) (hy : y < m) : cidx ms m x = cidx ms m y ↔ nth ms x = nth ms y := by
  constructor
  · intro h
    rw [← (cidx_spec K hs hx).2, ← (cidx_spec K hs hy).2, h]
  · intro h; unfold cidx; rw [h]
/-- the marks of the law, before record i of component j -/
structure LMark (ms : List Int) (m j i : Nat) (M : List Int) : Prop where
  len : M.length = m
  val : ∀ x, x < m → nth M x = if cidx ms m x < j ∨ (cidx ms m x = j ∧ (x : Int) ∈ (recs ms m (nth (comps ms m) j)).take i) then (cidx ms m x : Int) + 1 else 0
theorem LMark.start (ms : List Int) (m : Nat) : LMark ms m 0 0 (List.replicate m 0) := by
  refine ⟨by simp, fun x hx => ?_⟩
  rw [if_neg (by simp)]
  simp [nth, List.getD_eq_getElem?_getD, hx]
theorem LMark.next {same ms : List Int} {m j i : Nat} {M : List Int} {R : Int → Int → Prop} (K : MarkOk same m R ms) (hs : ∀ a b, R a b → R b a) (h : LMark ms m j i M) (hj : j < (comps ms m).length) (hi : i < (recs ms m (nth (comps ms m) j)).length) :
    nth M (nth (recs ms m (nth (comps ms m) j)) i).toNat = 0 ∧ LMark ms m j (i + 1) (M.set (nth (recs ms m (nth (comps ms m) j)) i).toNat ((j : Int) + 1)) := by
  obtain ⟨rc, hrc⟩ : ∃ rc, recs ms m (nth (comps ms m) j) = rc := ⟨_, rfl⟩
  have hval := h.val
  rw [hrc] at hi hval ⊢
  have hn : rc.Nodup := by rw [← hrc]; exact nodup_ixs _ _
  have hx := nth_mem hi
  have hx' : nth rc i ∈ recs ms m (nth (comps ms m) j) := by rw [hrc]; exact hx
  obtain ⟨x0, x1, x2⟩ := mem_recs.1 hx'
  have hxn : (((nth rc i).toNat : Nat) : Int) = nth rc i := Int.toNat_of_nonneg x0
  have hxl : (nth rc i).toNat < m := by omega
  have hc := cidx_of K hs hxl hj x2
  have htk : rc.take (i + 1) = rc.take i ++ [nth rc i] := by
    rw [List.take_succ_eq_append_getElem hi]
    simp [nth, List.getD_eq_getElem?_getD, List.getElem?_eq_getElem hi]
  have hnot : nth rc i ∉ rc.take i := fun hmem => by
    obtain ⟨k, hk, e⟩ := nth_of_mem hmem
    have hk' : k < i := by rw [List.length_take] at hk; omega
    rw [nth_take hk'] at e
    have := nth_inj hn (by omega) hi e
    omega
  constructor
  · rw [hval _ hxl, hc, if_neg (by
      rintro (h' | ⟨_, h'⟩)
      · omega
      · rw [hxn] at h'; exact hnot h')]
  · refine ⟨by rw [List.length_set, h.len], fun y hy => ?_⟩
    rw [nth_set _ _ _ _ (by rw [h.len]; exact hxl), hrc, htk]
    by_cases e : y = (nth rc i).toNat
    · rw [if_pos e, if_pos (.inr ⟨by rw [e]; exact hc, by rw [e, hxn]; simp⟩), e, hc]
    · rw [if_neg e, hval y hy]
      have : (y : Int) ∈ rc.take i ++ [nth rc i] ↔ (y : Int) ∈ rc.take i := by
        rw [List.mem_append, List.mem_singleton]
        exact ⟨fun h => h.elim id (fun h => absurd (by omega) e), .inl⟩
      by_cases hq : cidx ms m y < j ∨ (cidx ms m y = j ∧ (y : Int) ∈ rc.take i)
      · rw [if_pos hq, if_pos (hq.imp id fun h => ⟨h.1, this.2 h.2⟩)]
      · rw [if_neg hq, if_neg (fun h => hq (h.imp id fun h => ⟨h.1, this.1 h.2⟩))]
theorem LMark.row {same ms : List Int} {m j : Nat} {M : List Int} {R : Int → Int → Prop} (K : MarkOk same m R ms) (hs : ∀ a b, R a b → R b a) (hj : j < (comps ms m).length) (h : LMark ms m j (recs ms m (nth (comps ms m) j)).length M) : LMark ms m (j + 1) 0 M := by
  refine ⟨h.len, fun x hx => ?_⟩
  rw [h.val x hx, List.take_length, List.take_zero]
  obtain ⟨h1, h2⟩ := cidx_spec K hs hx
  by_cases e : cidx ms m x = j
  · have hm : (x : Int) ∈ recs ms m (nth (comps ms m) j) := mem_recs.2 ⟨by omega, by omega, by rw [Int.toNat_natCast, ← h2, e]⟩
    rw [if_pos (.inr ⟨e, hm⟩), if_pos (.inl (by omega))]
  · by_cases hlt : cidx ms m x < j
    · rw [if_pos (.inl hlt), if_pos (.inl (by omega))]
    · rw [if_neg (by rintro (h' | ⟨h', _⟩) <;> omega), if_neg (by rintro (h' | ⟨_, h'⟩); omega; simp at h')]
theorem LMark.done {same ms : List Int} {m : Nat} {M : List Int} {R : Int → Int → Prop} (K : MarkOk same m R ms) (hs : ∀ a b, R a b → R b a) (h : LMark ms m (comps ms m).length 0 M) {x y : Nat} (hx : x < m) (hy : y < m) : (nth M x = nth M y) ↔ nth ms x = nth ms y := by
  have e1 := (cidx_spec K hs hx).1
  have e2 := (cidx_spec K hs hy).1
  rw [h.val x hx, h.val y hy, if_pos (.inl e1), if_pos (.inl e2), ← cidx_inj K hs hx hy]
  omega

end Go.Proofs.Ytiapdpbcnbgdmaa

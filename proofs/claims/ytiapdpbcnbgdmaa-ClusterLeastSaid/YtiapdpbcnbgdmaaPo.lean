import Derived.Test.YtiapdpbcnbgdmaaPn
import Derived.Test.YtiapdpbcnbgdmaaIs
set_option linter.unusedVariables false
set_option linter.unusedSimpArgs false
namespace Go.Proofs.Ytiapdpbcnbgdmaa
open Go.RowKit

/-! One answer for two inputs. -/
theorem MarkOk.congr {same ms : List Int} {m : Nat} {R R' : Int → Int → Prop} (h : ∀ a b, R a b ↔ R' a b) (K : MarkOk same m R ms) : MarkOk same m R' ms := by
  have : R = R' := by funext a b; exact propext (h a b)
  rw [← this]; exact K
theorem MarkOk.same_eq {same ms : List Int} {m : Nat} {R : Int → Int → Prop} (K : MarkOk same m R ms) (hs : ∀ a b, R a b → R b a) (hv : ValidP same) (hl : same.length = m) {i : Nat} (hi : i < m) : nth ms (nth same i).toNat = nth ms i := by
  obtain ⟨k0, k1, k2⟩ := hv.1 i (by omega)
  obtain ⟨a1, a2, a3⟩ := K.2 i hi
  obtain ⟨b1, b2, b3⟩ := K.2 (nth same i).toNat (by omega)
  rw [k2] at b2
  have h1 := a3 _ (a2.trans (b2.symm hs))
  have h2 := b3 _ (b2.trans (a2.symm hs))
  omega
theorem cluster_same {es es' : List E3} {same : List Int} {ps ps' : List (Int × Int)} {a b : List Int} (F : Facts es same ps) (F' : Facts es' same ps') (hadj : ∀ x y, Adj (wTo es same es.length) x y ↔ Adj (wTo es' same es'.length) x y)
    (ha : ClusterP es same ps a) (hb : ClusterP es' same ps' b)
    (hsolve : ∀ ms hd, MarksOf es same ms → Answer same ms same.length (aTo ps same ps.length) hd → (∀ i, i < same.length → nth a i = hd (nth same i)) → ∀ c ∈ comps ms same.length, ∀ hs, Solved same.length (wTo es same es.length) (aTo ps same ps.length) (clsOf same ms same.length c) hs → (∀ i, i < (clsOf same ms same.length c).length → hd (nth (clsOf same ms same.length c) i) = nth hs i) → Solved same.length (wTo es' same es'.length) (aTo ps' same ps'.length) (clsOf same ms same.length c) hs) : a = b := by
  obtain ⟨ms, hd, hm, hl, he, A, hs, _⟩ := cluster_facts F ha
  obtain ⟨ms', hd', hm', hl', he', A', hs', _⟩ := cluster_facts F' hb
  have hmk : MarkOk same same.length (Adj (wTo es same es.length)) ms := hm
  have hmk' : MarkOk same same.length (Adj (wTo es' same es'.length)) ms' := hm'
  obtain rfl : ms = ms' := (hmk.congr hadj).uniq hmk' Adj.symm'
  refine nth_ext (hl.trans hl'.symm) fun i hi => ?_
  have hi : i < same.length := by omega
  rw [he i hi, he' i hi]
  have hc := same_cls F.v rfl (i := (i : Int)) (by omega) (by omega)
  rw [Int.toNat_natCast] at hc
  obtain ⟨h1, h2⟩ := hmk.mem Adj.symm' hc
  obtain ⟨x, hx, hxv⟩ := hs _ h1
  obtain ⟨y, hy, hyv⟩ := hs' _ h1
  have hxy := (hsolve ms hd hm A he _ h1 x hx hxv).uniq hy
  obtain ⟨k, hk, e⟩ := nth_of_mem h2
  rw [← e, hxv k hk, hyv k hk, hxy]
/-! The weights as sums. -/
def keyB (same : List Int) (p : Int × Int) (e : E3) : Bool := decide (nth same e.a.toNat ≠ nth same e.b.toNat ∧ p = (min (nth same e.a.toNat) (nth same e.b.toNat), max (nth same e.a.toNat) (nth same e.b.toNat)))
def valK (same : List Int) (p : Int × Int) (e : E3) : Int := if keyB same p e = true then e.w else 0
theorem eth_take {es : List E3} {k : Nat} (h : k < es.length) : es.take (k + 1) = es.take k ++ [eth es k] := by
  rw [List.take_succ_eq_append_getElem h]
  simp [eth, List.getD_eq_getElem?_getD, List.getElem?_eq_getElem h]
theorem wTo_sumK {es : List E3} {same : List Int} {p : Int × Int} : ∀ k, k ≤ es.length → wTo es same k p = if (es.take k).any (keyB same p) = true then some ((es.take k).map (valK same p)).sum else none
  | 0, _ => by simp [wTo]
  | k + 1, hk => by
    rw [wTo, wTo_sumK k (by omega), eth_take hk, List.any_append, List.map_append, List.sum_append]
    simp only [List.any_cons, List.any_nil, Bool.or_false, List.map_cons, List.map_nil, List.sum_cons, List.sum_nil, Int.add_zero]
    by_cases hc : nth same (eth es k).a.toNat ≠ nth same (eth es k).b.toNat ∧ p = (min (nth same (eth es k).a.toNat) (nth same (eth es k).b.toNat), max (nth same (eth es k).a.toNat) (nth same (eth es k).b.toNat))
    · have hkb : keyB same p (eth es k) = true := decide_eq_true hc
      rw [if_pos hc, hkb, Bool.or_true, if_pos rfl]
      have hv : valK same p (eth es k) = (eth es k).w := by unfold valK; rw [if_pos hkb]
      rw [hv]
      by_cases ha : (es.take k).any (keyB same p) = true
      · rw [if_pos ha]; rfl
      · rw [if_neg ha]
        have hz : ((es.take k).map (valK same p)).sum = 0 := by
          rw [sum_congr (g := fun _ => 0) (fun e he => ?_), sum_zero]
          unfold valK
          rw [if_neg]
          intro h
          exact ha (List.any_eq_true.2 ⟨e, he, h⟩)
        rw [hz]; rfl
    · have hkb : keyB same p (eth es k) = false := decide_eq_false hc
      rw [if_neg hc, hkb, Bool.or_false]
      have hv : valK same p (eth es k) = 0 := by unfold valK; rw [hkb]; rfl
      rw [hv, Int.add_zero]
theorem wTo_all {es : List E3} {same : List Int} {p : Int × Int} : wTo es same es.length p = if es.any (keyB same p) = true then some (es.map (valK same p)).sum else none := by
  have := wTo_sumK (es := es) (same := same) (p := p) es.length (Nat.le_refl _)
  rwa [List.take_length] at this
def keyA (same : List Int) (p : Int × Int) (e : Int × Int) : Bool := decide (nth same e.1.toNat ≠ nth same e.2.toNat ∧ p = (min (nth same e.1.toNat) (nth same e.2.toNat), max (nth same e.1.toNat) (nth same e.2.toNat)))
theorem pth_take {ps : List (Int × Int)} {k : Nat} (h : k < ps.length) : ps.take (k + 1) = ps.take k ++ [pth ps k] := by
  rw [List.take_succ_eq_append_getElem h]
  simp [pth, List.getD_eq_getElem?_getD, List.getElem?_eq_getElem h]
theorem aTo_anyK {ps : List (Int × Int)} {same : List Int} {p : Int × Int} : ∀ k, k ≤ ps.length → aTo ps same k p = if (ps.take k).any (keyA same p) = true then some true else none
  | 0, _ => by simp [aTo]
  | k + 1, hk => by
    rw [aTo, aTo_anyK k (by omega), pth_take hk, List.any_append]
    simp only [List.any_cons, List.any_nil, Bool.or_false]
    by_cases hc : nth same (pth ps k).1.toNat ≠ nth same (pth ps k).2.toNat ∧ p = (min (nth same (pth ps k).1.toNat) (nth same (pth ps k).2.toNat), max (nth same (pth ps k).1.toNat) (nth same (pth ps k).2.toNat))
    · have hkb : keyA same p (pth ps k) = true := decide_eq_true hc
      rw [if_pos hc, hkb, Bool.or_true, if_pos rfl]
    · have hkb : keyA same p (pth ps k) = false := decide_eq_false hc
      rw [if_neg hc, hkb, Bool.or_false]
theorem aTo_all {ps : List (Int × Int)} {same : List Int} {p : Int × Int} : aTo ps same ps.length p = if ps.any (keyA same p) = true then some true else none := by
  have := aTo_anyK (ps := ps) (same := same) (p := p) ps.length (Nat.le_refl _)
  rwa [List.take_length] at this
/-! THE LAW 'Evidence'. -/
def twice (part : Int) (es : List E3) : List E3 := es.reverse.flatMap fun e => [⟨e.b, e.a, e.w - part⟩, ⟨e.a, e.b, part⟩]
def swapped (ps : List (Int × Int)) : List (Int × Int) := ps.reverse.map fun p => (p.2, p.1)
theorem keyB_swap {same : List Int} {p : Int × Int} {a b w w' : Int} : keyB same p ⟨b, a, w⟩ = keyB same p ⟨a, b, w'⟩ := by
  unfold keyB
  simp only
  rw [Int.min_comm, Int.max_comm]
  congr 1
  exact propext ⟨fun h => ⟨Ne.symm h.1, h.2⟩, fun h => ⟨Ne.symm h.1, h.2⟩⟩
theorem any_congr' {α : Type} {f g : α → Bool} {l : List α} (h : ∀ x ∈ l, f x = g x) : l.any f = l.any g := by
  rw [Bool.eq_iff_iff, List.any_eq_true, List.any_eq_true]
  exact ⟨fun ⟨x, hx, e⟩ => ⟨x, hx, by rw [← h x hx]; exact e⟩, fun ⟨x, hx, e⟩ => ⟨x, hx, by rw [h x hx]; exact e⟩⟩
theorem sum_flatMap {α β : Type} (f : α → List β) (g : β → Int) : ∀ l : List α, ((l.flatMap f).map g).sum = (l.map fun x => ((f x).map g).sum).sum
  | [] => rfl
  | x :: l => by rw [List.flatMap_cons, List.map_append, List.sum_append, sum_flatMap f g l]; rfl
theorem wTo_twice {same : List Int} {es : List E3} {part : Int} (p : Int × Int) : wTo (twice part es) same (twice part es).length p = wTo es same es.length p := by
  rw [wTo_all, wTo_all]
  have h1 : (twice part es).any (keyB same p) = es.any (keyB same p) := by
    unfold twice
    rw [List.any_flatMap, List.any_reverse]
    refine any_congr' fun e _ => ?_
    simp only [List.any_cons, List.any_nil, Bool.or_false]
    rw [keyB_swap (w := e.w - part) (w' := part), keyB_swap (a := e.b) (b := e.a) (w := part) (w' := part), keyB_swap (w := part) (w' := e.w)]
    cases keyB same p ⟨e.a, e.b, e.w⟩ <;> rfl
  have h2 : ((twice part es).map (valK same p)).sum = (es.map (valK same p)).sum := by
    unfold twice
    rw [sum_flatMap, List.map_reverse, sum_perm (List.reverse_perm _)]
    refine sum_congr fun e _ => ?_
    simp only [List.map_cons, List.map_nil, List.sum_cons, List.sum_nil, Int.add_zero]
    have k1 : keyB same p ⟨e.b, e.a, e.w - part⟩ = keyB same p e := keyB_swap
    have k2 : keyB same p ⟨e.a, e.b, part⟩ = keyB same p e := (keyB_swap (w' := e.w) (w := 0)).symm.trans keyB_swap |>.symm.trans (by rfl) |> fun h => by first | exact h | rfl
    unfold valK
    rw [k1, k2]
    split
    · simp only; omega
    · rfl
  rw [h1, h2]
theorem aTo_swapped {same : List Int} {ps : List (Int × Int)} (p : Int × Int) : aTo (swapped ps) same (swapped ps).length p = aTo ps same ps.length p := by
  rw [aTo_all, aTo_all]
  have h1 : (swapped ps).any (keyA same p) = ps.any (keyA same p) := by
    unfold swapped
    rw [List.any_map, List.any_reverse]
    refine any_congr' fun e _ => ?_
    simp only [Function.comp]
    unfold keyA
    simp only
    rw [Int.min_comm, Int.max_comm]
    congr 1
    exact propext ⟨fun h => ⟨Ne.symm h.1, h.2⟩, fun h => ⟨Ne.symm h.1, h.2⟩⟩
  rw [h1]
theorem cluster_evidence {es : List E3} {same : List Int} {ps : List (Int × Int)} {part : Int} {a b : List Int} (hg : goodB es same ps = true) (hg' : goodB (twice part es) same (swapped ps) = true) (ha : ClusterP es same ps a) (hb : ClusterP (twice part es) same (swapped ps) b) : a = b := by
  have hW : wTo (twice part es) same (twice part es).length = wTo es same es.length := funext wTo_twice
  have hA : aTo (swapped ps) same (swapped ps).length = aTo ps same ps.length := funext aTo_swapped
  refine cluster_same (good_facts hg) (good_facts hg') (fun x y => by rw [hW]) ha hb fun ms hd _ _ _ c hc hs h _ => ?_
  rw [hW, hA]; exact h
theorem linkedB_all {m : Int} {es : List E3} : linkedB m es = true ↔ es.length ≤ 20000 ∧ ∀ e ∈ es, badE m e.a e.b e.w = false := by
  unfold linkedB
  rw [Bool.and_eq_true, decide_eq_true_iff, Bool.not_eq_true', List.any_eq_false]
  refine and_congr_right fun _ => ⟨fun h e he => ?_, fun h j hj => ?_⟩
  · obtain ⟨j, hj, e1⟩ := List.getElem_of_mem he
    have := h j (List.mem_range.2 hj)
    have ej : eth es j = e := by simp [eth, List.getD_eq_getElem?_getD, List.getElem?_eq_getElem hj, e1]
    rw [ej] at this
    simpa using this
  · have hj := List.mem_range.1 hj
    have ej : eth es j = es[j] := by simp [eth, List.getD_eq_getElem?_getD, List.getElem?_eq_getElem hj]
    rw [ej, h _ (List.getElem_mem hj)]
    simp
theorem pairedB_all {m : Int} {ps : List (Int × Int)} : pairedB m ps = true ↔ ∀ e ∈ ps, badP m e.1 e.2 = false := by
  unfold pairedB
  rw [Bool.not_eq_true', List.any_eq_false]
  refine ⟨fun h e he => ?_, fun h j hj => ?_⟩
  · obtain ⟨j, hj, e1⟩ := List.getElem_of_mem he
    have := h j (List.mem_range.2 hj)
    have ej : pth ps j = e := by simp [pth, List.getD_eq_getElem?_getD, List.getElem?_eq_getElem hj, e1]
    rw [ej] at this
    simpa using this
  · have hj := List.mem_range.1 hj
    have ej : pth ps j = ps[j] := by simp [pth, List.getD_eq_getElem?_getD, List.getElem?_eq_getElem hj]
    rw [ej, h _ (List.getElem_mem hj)]
    simp
theorem twice_len {part : Int} (es : List E3) : (twice part es).length = 2 * es.length := by
  unfold twice
  rw [List.length_flatMap]
  have : ∀ l : List E3, (l.map fun e => ([⟨e.b, e.a, e.w - part⟩, ⟨e.a, e.b, part⟩] : List E3).length).sum = 2 * l.length := fun l => by
    induction l with
    | nil => rfl
    | cons e l ih => rw [List.map_cons, List.sum_cons, ih]; simp; omega
  rw [this, List.length_reverse]
theorem good_twice {es : List E3} {same : List Int} {ps : List (Int × Int)} {part : Int} (hp : -32768 ≤ part ∧ part ≤ 32767) (hn : es.length ≤ 40) (hw : ∀ e ∈ es, -999960000 ≤ e.w ∧ e.w ≤ 999960000) : goodB (twice part es) same (swapped ps) = goodB es same ps := by
  have h1 : linkedB same.length (twice part es) = linkedB same.length es := by
    rw [Bool.eq_iff_iff, linkedB_all, linkedB_all, twice_len]
    constructor
    · rintro ⟨_, h⟩
      refine ⟨by omega, fun e he => ?_⟩
      have := h ⟨e.a, e.b, part⟩ (by unfold twice; rw [List.mem_flatMap]; exact ⟨e, List.mem_reverse.2 he, by simp⟩)
      have := hw e he
      unfold badE at *
      simp only [decide_eq_false_iff_not] at *
      omega
    · rintro ⟨_, h⟩
      refine ⟨by omega, fun e he => ?_⟩
      unfold twice at he
      rw [List.mem_flatMap] at he
      obtain ⟨e0, he0, he⟩ := he
      have he0 := List.mem_reverse.1 he0
      have h2 := h e0 he0
      have h3 := hw e0 he0
      unfold badE at h2 ⊢
      simp only [decide_eq_false_iff_not] at h2 ⊢
      simp only [List.mem_cons, List.not_mem_nil, or_false] at he
      rcases he with rfl | rfl
      · simp only; omega
      · simp only; omega
  have h2 : pairedB same.length (swapped ps) = pairedB same.length ps := by
    rw [Bool.eq_iff_iff, pairedB_all, pairedB_all]
    unfold swapped
    constructor
    · intro h e he
      have := h (e.2, e.1) (by rw [List.mem_map]; exact ⟨e, List.mem_reverse.2 he, rfl⟩)
      unfold badP at *
      simp only [decide_eq_false_iff_not] at *
      omega
    · intro h e he
      obtain ⟨e0, he0, rfl⟩ := List.mem_map.1 he
      have := h e0 (List.mem_reverse.1 he0)
      unfold badP at *
      simp only [decide_eq_false_iff_not] at *
      omega
  unfold goodB
  rw [h1, h2]
/-! THE LAW 'Further'. -/
theorem aTo_snoc {ps : List (Int × Int)} {same : List Int} {x y : Int} {p : Int × Int} : aTo (ps ++ [(x, y)]) same (ps ++ [(x, y)]).length p ≠ none ↔ aTo ps same ps.length p ≠ none ∨ (nth same x.toNat ≠ nth same y.toNat ∧ p = ordP (nth same x.toNat) (nth same y.toNat)) := by
  rw [aTo_all, aTo_all, List.any_append]
  simp only [List.any_cons, List.any_nil, Bool.or_false]
  have hk : keyA same p (x, y) = true ↔ (nth same x.toNat ≠ nth same y.toNat ∧ p = ordP (nth same x.toNat) (nth same y.toNat)) := by unfold keyA ordP; rw [decide_eq_true_iff]
  cases h1 : ps.any (keyA same p) <;> cases h2 : keyA same p (x, y)
  · simp only [h2, Bool.false_eq_true, false_iff] at hk; simp [hk]
  · simp only [h2, true_iff] at hk; simp [hk]
  · simp
  · simp
theorem cluster_further {es : List E3} {same : List Int} {ps : List (Int × Int)} {x y : Int} {a b : List Int} (hx : 0 ≤ x ∧ x < same.length) (hy : 0 ≤ y ∧ y < same.length) (hg : goodB es same ps = true) (hg' : goodB es same (ps ++ [(x, y)]) = true) (ha : ClusterP es same ps a) (hb : ClusterP es same (ps ++ [(x, y)]) b) (hne : nth a x.toNat ≠ nth a y.toNat) : a = b := by
  have F := good_facts hg
  have F' := good_facts hg'
  refine cluster_same F F' (fun _ _ => Iff.rfl) ha hb fun ms hd hm A he c hc hs h hv => ?_
  rw [he _ (by omega), he _ (by omega)] at hne
  have hcn : nth same x.toNat ≠ nth same y.toNat := fun e => hne (by rw [e])
  refine h.further (nodup_ixs _ _) F.av F'.av (a := nth same x.toNat) (b := nth same y.toNat) (fun p => ?_) hv (fun _ _ => hne) hcn (fun d hd' => ?_)
  · rw [aTo_snoc]
    exact or_congr_right ⟨fun h => h.2, fun h => ⟨hcn, h⟩⟩
  · obtain ⟨k1, k2, k3, k4⟩ := mem_cls.1 hd'
    have kc : Cls same same.length d := ⟨k1, k2, k4⟩
    obtain ⟨j1, j2, j3⟩ := A.cls d kc
    exact mem_cls.2 ⟨j1, j2, by rw [A.mark d kc, k3], j3⟩
theorem good_snoc {es : List E3} {same : List Int} {ps : List (Int × Int)} {x y : Int} (hx : 0 ≤ x ∧ x < same.length) (hy : 0 ≤ y ∧ y < same.length) (hg : goodB es same ps = true) : goodB es same (ps ++ [(x, y)]) = true := by
  obtain ⟨h1, h2, h3⟩ := good_split hg
  have : pairedB same.length (ps ++ [(x, y)]) = true := by
    rw [pairedB_all] at h3 ⊢
    intro e he
    rcases List.mem_append.1 he with he | he
    · exact h3 e he
    · rw [List.mem_singleton.1 he]
      unfold badP
      simp only [decide_eq_false_iff_not]
      omega
  unfold goodB
  rw [h1, h2, this]; rfl

end Go.Proofs.Ytiapdpbcnbgdmaa

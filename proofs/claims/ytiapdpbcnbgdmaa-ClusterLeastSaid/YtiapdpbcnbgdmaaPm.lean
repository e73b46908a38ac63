import Derived.Test.YtiapdpbcnbgdmaaPl
import Derived.Test.YtiapdpbcnbgdmaaCw
set_option linter.unusedVariables false
set_option linter.unusedSimpArgs false
namespace Go.Proofs.Ytiapdpbcnbgdmaa
open Go.RowKit

/-! Costs by what is kept together. -/
def gk (q : Nat) (W : Int × Int → Option Int) (f : Int → Int) : Int := gsum q fun p => if f p.1 = f p.2 then (W p).getD 0 else 0
def togTo (es : List E3) (same : List Int) (f : Int → Int) : Nat → Int
  | 0 => 0
  | k + 1 => togTo es same f k + (if f (nth same (eth es k).a.toNat) = f (nth same (eth es k).b.toNat) then (eth es k).w else 0)
def posTo (es : List E3) : Nat → Int
  | 0 => 0
  | k + 1 => posTo es k + max (eth es k).w 0
theorem cost_tog {es : List E3} {same xs : List Int} {m n : Nat} {f : Int → Int} (hl : xs.length = m) (hg : GoodE m es n) (hf : ∀ i, i < m → nth xs i = f (nth same i)) : ∀ k, k ≤ n → costTo es xs k = posTo es k - togTo es same f k ∧ 0 ≤ costTo es xs k ∧ costTo es xs k ≤ 1000000000 * (k : Int) := by
  intro k
  induction k with
  | zero => intro _; exact ⟨rfl, Int.le_refl _, Int.le_refl _⟩
  | succ k ih =>
    intro hk
    obtain ⟨h1, h2, h3⟩ := ih (by omega)
    obtain ⟨hr, hw1, hw2⟩ := hg.1 k (by omega)
    have hn := hg.2
    obtain ⟨a1, a2, a3, a4⟩ := hr
    have e1 := hf (eth es k).a.toNat (by omega)
    have e2 := hf (eth es k).b.toNat (by omega)
    rw [costTo, costStep, hl, if_pos ⟨a1, a2, a3, a4⟩, posTo, togTo, e1, e2]
    by_cases hab : f (nth same (eth es k).a.toNat) = f (nth same (eth es k).b.toNat)
    · rw [if_pos hab, if_pos hab]
      by_cases hw : (eth es k).w < 0
      · rw [if_pos hw, wrap64_id (by omega)]; omega
      · rw [if_neg hw]; omega
    · rw [if_neg hab, if_neg hab]
      by_cases hw : 0 < (eth es k).w
      · rw [if_pos hw, wrap64_id (by omega)]; omega
      · rw [if_neg hw]; omega
theorem gsum_at {q : Nat} {p0 : Int × Int} (h : p0 ∈ grid q) (x : Int) : (gsum q fun p => if p = p0 then x else 0) = x := by
  rw [← gsum_list (ks := [p0]) (by simp) (fun p hp => by
    by_cases e : p = p0
    · subst e; exact ⟨by simp, h⟩
    · simp only [e, if_false] at hp; exact absurd rfl hp)]
  simp
theorem tog_eq {es : List E3} {same : List Int} {m n : Nat} {f : Int → Int} (hv : ValidP same) (hl : same.length = m) (hg : GoodE m es n) : ∀ k, k ≤ n → togTo es same f k = togTo es same id k + gk m (wTo es same k) f := by
  intro k
  induction k with
  | zero =>
    intro _
    have : gk m (wTo es same 0) f = 0 := by
      unfold gk gsum
      rw [sum_congr (g := fun _ => 0) (fun p _ => by simp [wTo]), sum_zero]
    rw [this]; rfl
  | succ k ih =>
    intro hk
    have ih := ih (by omega)
    obtain ⟨h1, h2, h3, h4⟩ := (hg.1 k (by omega)).1
    have ka := same_cls hv hl h1 h2
    have kb := same_cls hv hl h3 h4
    rw [togTo, togTo, ih]
    by_cases e : nth same (eth es k).a.toNat = nth same (eth es k).b.toNat
    · rw [if_pos (show f _ = f _ by rw [e]), if_pos (show id (nth same (eth es k).a.toNat) = id (nth same (eth es k).b.toNat) from e)]
      have : gk m (wTo es same (k + 1)) f = gk m (wTo es same k) f := by
        refine sum_congr fun p _ => ?_
        have ew : wTo es same (k + 1) p = wTo es same k p := by rw [wTo, if_neg (fun h => h.1 e)]
        rw [ew]
      rw [this]; omega
    · rw [if_neg (c := id (nth same (eth es k).a.toNat) = id (nth same (eth es k).b.toNat)) (fun h => e h)]
      have hp0 : ((min (nth same (eth es k).a.toNat) (nth same (eth es k).b.toNat), max (nth same (eth es k).a.toNat) (nth same (eth es k).b.toNat)) : Int × Int) ∈ grid m := by
        rw [mem_grid]
        have := ka.1; have := ka.2.1; have := kb.1; have := kb.2.1
        simp only
        omega
      have : gk m (wTo es same (k + 1)) f = gk m (wTo es same k) f + (if f (nth same (eth es k).a.toNat) = f (nth same (eth es k).b.toNat) then (eth es k).w else 0) := by
        rw [← gsum_at hp0 (if f (nth same (eth es k).a.toNat) = f (nth same (eth es k).b.toNat) then (eth es k).w else 0)]
        unfold gk
        rw [← gsum_add]
        refine sum_congr fun p _ => ?_
        by_cases ep : p = (min (nth same (eth es k).a.toNat) (nth same (eth es k).b.toNat), max (nth same (eth es k).a.toNat) (nth same (eth es k).b.toNat))
        · have ew : wTo es same (k + 1) p = some ((wTo es same k p).getD 0 + (eth es k).w) := by rw [wTo, if_pos ⟨e, ep⟩]
          rw [ew, if_pos ep]
          have hff : (f p.1 = f p.2) ↔ f (nth same (eth es k).a.toNat) = f (nth same (eth es k).b.toNat) := by
            rw [ep]
            simp only
            rcases Int.le_total (nth same (eth es k).a.toNat) (nth same (eth es k).b.toNat) with h | h
            · rw [Int.min_eq_left h, Int.max_eq_right h]
            · rw [Int.min_eq_right h, Int.max_eq_left h]; exact eq_comm
          by_cases hh : f (nth same (eth es k).a.toNat) = f (nth same (eth es k).b.toNat)
          · rw [if_pos (hff.2 hh), if_pos (hff.2 hh), if_pos hh]; simp
          · rw [if_neg (fun h => hh (hff.1 h)), if_neg (fun h => hh (hff.1 h)), if_neg hh]; rfl
        · have ew : wTo es same (k + 1) p = wTo es same k p := by rw [wTo, if_neg (fun h => ep h.2)]
          rw [ew, if_neg ep]; omega
      rw [this]; omega
/-- The cost falls as what is kept together grows. -/
theorem cost_gk {es : List E3} {same xs : List Int} {m n : Nat} {f : Int → Int} (hv : ValidP same) (hl : same.length = m) (hx : xs.length = m) (hg : GoodE m es n) (hf : ∀ i, i < m → nth xs i = f (nth same i)) : costTo es xs n = posTo es n - togTo es same id n - gk m (wTo es same n) f := by
  rw [(cost_tog hx hg hf n (Nat.le_refl _)).1, tog_eq hv hl hg n (Nat.le_refl _)]; omega
theorem sum_single {l : List Int} {c0 x : Int} (hn : l.Nodup) (h : c0 ∈ l) : (l.map fun c => if c = c0 then x else 0).sum = x := by
  induction l with
  | nil => simp at h
  | cons c l ih =>
    obtain ⟨h1, h2⟩ := List.nodup_cons.1 hn
    rw [List.map_cons, List.sum_cons]
    rcases List.mem_cons.1 h with rfl | h
    · rw [if_pos rfl, sum_congr (g := fun _ => 0) (fun d hd => if_neg (fun e => h1 (by rw [← e]; exact hd))), sum_zero]; omega
    · rw [if_neg (fun e => h1 (by rw [e]; exact h)), ih h2 h]; omega
theorem sum_le_sum {α : Type} {f g : α → Int} : ∀ {l : List α}, (∀ x ∈ l, f x ≤ g x) → (l.map f).sum ≤ (l.map g).sum
  | [], _ => Int.le_refl _
  | x :: l, h => by
    have h1 := h x (List.mem_cons_self ..)
    have h2 := sum_le_sum (l := l) fun y hy => h y (List.mem_cons_of_mem _ hy)
    simp only [List.map_cons, List.sum_cons]
    omega
section
variable {same ms : List Int} {m : Nat} {WT : Int × Int → Option Int}
theorem MarkOk.mem {R : Int → Int → Prop} (K : MarkOk same m R ms) (hs : ∀ a b, R a b → R b a) {c : Int} (h : Cls same m c) : nth ms c.toNat ∈ comps ms m ∧ c ∈ clsOf same ms m (nth ms c.toNat) := by
  obtain ⟨h0, h1, h2⟩ := h
  have hi : c.toNat < m := by omega
  obtain ⟨k1, _⟩ := K.2 c.toNat hi
  exact ⟨mem_comps.2 ⟨k1.1, k1.2.1, K.self hs hi⟩, mem_cls.2 ⟨h0, h1, rfl, h2⟩⟩
theorem MarkOk.adj (K : MarkOk same m (Adj WT) ms) {a b : Int} (ha : Cls same m a) (hb : Cls same m b) (h : Adj WT a b) : nth ms a.toNat = nth ms b.toNat := by
  obtain ⟨a0, a1, a2⟩ := ha
  obtain ⟨b0, b1, b2⟩ := hb
  obtain ⟨p1, p2, p3⟩ := K.2 a.toNat (by omega)
  obtain ⟨q1, q2, q3⟩ := K.2 b.toNat (by omega)
  rw [a2] at p2
  rw [b2] at q2
  have h1 := p3 _ ((p2.step h).trans (q2.symm Adj.symm'))
  have h2 := q3 _ ((q2.step h.symm).trans (p2.symm Adj.symm'))
  omega
/-- what is kept together, by components -/
theorem gk_comps {f : Int → Int} (K : MarkOk same m (Adj WT) ms) (hk : ∀ p x, WT p = some x → Cls same m p.1 ∧ Cls same m p.2 ∧ p.1 < p.2) :
    gk m WT f = ((comps ms m).map fun c => kept m WT (clsOf same ms m c) f).sum + gsum m fun p => if f p.1 = f p.2 ∧ nth ms p.1.toNat ≠ nth ms p.2.toNat then (WT p).getD 0 else 0 := by
  have hsw : ((comps ms m).map fun c => kept m WT (clsOf same ms m c) f).sum = gsum m fun p => ((comps ms m).map fun c => if p.1 ∈ clsOf same ms m c ∧ p.2 ∈ clsOf same ms m c ∧ f p.1 = f p.2 then (WT p).getD 0 else 0).sum := by
    unfold kept gsum
    rw [sum_swap]
  rw [hsw, ← gsum_add]
  refine sum_congr fun p _ => ?_
  cases hw : WT p with
  | none =>
    simp only [Option.getD_none, ite_self]
    rw [sum_zero]; omega
  | some x =>
    obtain ⟨h1, h2, _⟩ := hk p x hw
    obtain ⟨m1, c1⟩ := K.mem Adj.symm' h1
    obtain ⟨m2, c2⟩ := K.mem Adj.symm' h2
    simp only [Option.getD_some]
    by_cases hf : f p.1 = f p.2
    · by_cases hm : nth ms p.1.toNat = nth ms p.2.toNat
      · rw [if_pos hf, if_neg (fun h => h.2 hm)]
        rw [sum_congr (g := fun c => if c = nth ms p.1.toNat then x else 0) (fun c _ => ?_), sum_single (show (comps ms m).Nodup from nodup_ixs _ _) m1]
        · omega
        · by_cases e : c = nth ms p.1.toNat
          · rw [if_pos e, if_pos ⟨by rw [e]; exact c1, by rw [e, hm]; exact c2, hf⟩]
          · rw [if_neg e, if_neg (fun h => e (mem_cls.1 h.1).2.2.1.symm)]
      · rw [if_pos hf, if_pos ⟨hf, hm⟩, sum_congr (g := fun _ => 0) (fun c _ => if_neg (fun h => hm ((mem_cls.1 h.1).2.2.1.trans (mem_cls.1 h.2.1).2.2.1.symm))), sum_zero]; omega
    · rw [if_neg hf, if_neg (fun h => hf h.1), sum_congr (g := fun _ => 0) (fun c _ => if_neg (fun h => hf h.2.2)), sum_zero]; omega
/-- across components nothing is gained -/
theorem cross_le {f : Int → Int} (K : MarkOk same m (Adj WT) ms) (hk : ∀ p x, WT p = some x → Cls same m p.1 ∧ Cls same m p.2 ∧ p.1 < p.2) :
    (gsum m fun p => if f p.1 = f p.2 ∧ nth ms p.1.toNat ≠ nth ms p.2.toNat then (WT p).getD 0 else 0) ≤ 0 := by
  have := sum_le_sum (l := grid m) (f := fun p => if f p.1 = f p.2 ∧ nth ms p.1.toNat ≠ nth ms p.2.toNat then (WT p).getD 0 else 0) (g := fun _ => 0) (fun p _ => by
    split
    · rename_i h
      cases hw : WT p with
      | none => simp
      | some x =>
        simp only [Option.getD_some]
        rcases Int.lt_or_le 0 x with hx | hx
        · obtain ⟨h1, h2, _⟩ := hk p x hw
          exact absurd (K.adj h1 h2 ⟨x, hx, .inl hw⟩) h.2
        · exact hx
    · exact Int.le_refl _)
  rw [sum_zero] at this
  exact this
end
/-- What is known of Cluster's answer, for all classes at once. -/
structure Answer (same ms : List Int) (m : Nat) (AP : Int × Int → Option Bool) (hd : Int → Int) : Prop where
  cls : ∀ c, Cls same m c → Cls same m (hd c)
  mark : ∀ c, Cls same m c → nth ms (hd c).toNat = nth ms c.toNat
  le : ∀ c, Cls same m c → hd c ≤ c
  idem : ∀ c, Cls same m c → hd (hd c) = hd c
  ap : ∀ a b, Cls same m a → Cls same m b → a < b → AP (a, b) ≠ none → hd a ≠ hd b
theorem good_split {es : List E3} {same : List Int} {ps : List (Int × Int)} (h : goodB es same ps = true) : validB same = true ∧ linkedB same.length es = true ∧ pairedB same.length ps = true := by
  unfold goodB at h
  simp only [Bool.and_eq_true] at h
  exact h
structure Facts (es : List E3) (same : List Int) (ps : List (Int × Int)) : Prop where
  v : ValidP same
  e : GoodE same.length es es.length
  p : GoodP same.length ps ps.length
  wc : ∀ p x, wTo es same es.length p = some x → Cls same same.length p.1 ∧ Cls same same.length p.2 ∧ p.1 < p.2
  ac : ∀ p x, aTo ps same ps.length p = some x → x = true ∧ Cls same same.length p.1 ∧ Cls same same.length p.2 ∧ p.1 < p.2
  wl : ∀ p, wTo es same es.length p ≠ none → p.1 < p.2
  al : ∀ p, aTo ps same ps.length p ≠ none → p.1 < p.2
  av : ∀ p b, aTo ps same ps.length p = some b → b = true
theorem good_facts {es : List E3} {same : List Int} {ps : List (Int × Int)} (h : goodB es same ps = true) : Facts es same ps := by
  obtain ⟨h1, h2, h3⟩ := good_split h
  have hv := validB_good h1
  have he := (linkedB_good rfl h2).1
  have hp := pairedB_good rfl h3
  have hw := fun p x => wTo_cls hv rfl he p x es.length (Nat.le_refl _)
  have ha := fun p x => aTo_cls hv rfl hp p x ps.length (Nat.le_refl _)
  refine ⟨hv, he, hp, hw, ha, fun p hp => ?_, fun p hp => ?_, fun p b hb => (ha p b hb).1⟩
  · obtain ⟨x, hx⟩ := Option.ne_none_iff_exists'.1 hp
    exact (hw p x hx).2.2
  · obtain ⟨x, hx⟩ := Option.ne_none_iff_exists'.1 hp
    exact (ha p x hx).2.2.2
theorem cls_range {same ms : List Int} {m : Nat} {c0 : Int} : ∀ c ∈ clsOf same ms m c0, 0 ≤ c ∧ c < m := fun c hc => ⟨(mem_cls.1 hc).1, (mem_cls.1 hc).2.1⟩
/-- The answer, per component and whole. -/
theorem cluster_facts {es : List E3} {same : List Int} {ps : List (Int × Int)} {ent : List Int} (F : Facts es same ps) (h : ClusterP es same ps ent) :
    ∃ ms hd, MarksOf es same ms ∧ ent.length = same.length ∧ (∀ i, i < same.length → nth ent i = hd (nth same i)) ∧ Answer same ms same.length (aTo ps same ps.length) hd ∧
      (∀ c ∈ comps ms same.length, ∃ hs, Solved same.length (wTo es same es.length) (aTo ps same ps.length) (clsOf same ms same.length c) hs ∧ (∀ i, i < (clsOf same ms same.length c).length → hd (nth (clsOf same ms same.length c) i) = nth hs i)) ∧
      ∀ c ∈ comps ms same.length, 0 ≤ kept same.length (wTo es same es.length) (clsOf same ms same.length c) hd := by
  obtain ⟨ms, H, hm, hs, rfl⟩ := h
  have hS : ∀ c ∈ comps ms same.length, SolOk (aTo ps same ps.length) (clsOf same ms same.length c) (fun c => nth H c.toNat) ∧ 0 ≤ kept same.length (wTo es same es.length) (clsOf same ms same.length c) (fun c => nth H c.toNat) := fun c hc => by
    obtain ⟨h', h1, h2⟩ := hs c hc
    exact h1.sol (pair_ixs _ _) cls_range F.wl F.al F.av h2
  have hmk : MarkOk same same.length (Adj (wTo es same es.length)) ms := hm
  have hof : ∀ c, Cls same same.length c → ∃ c0, c0 = nth ms c.toNat ∧ c ∈ clsOf same ms same.length c0 ∧ SolOk (aTo ps same ps.length) (clsOf same ms same.length c0) (fun c => nth H c.toNat) := fun c hc => by
    obtain ⟨h1, h2⟩ := hmk.mem Adj.symm' hc
    exact ⟨_, rfl, h2, (hS _ h1).1⟩
  refine ⟨ms, fun c => nth H c.toNat, hm, by simp, fun i hi => ?_, ?_, fun c hc => hs c hc, fun c hc => (hS c hc).2⟩
  · simp [nth, List.getD_eq_getElem?_getD, List.getElem?_eq_getElem hi]
  · refine ⟨fun c hc => ?_, fun c hc => ?_, fun c hc => ?_, fun c hc => ?_, fun a b ha hb hab hap => ?_⟩
    · obtain ⟨c0, _, h1, h2⟩ := hof c hc
      obtain ⟨k1, k2, _, k4⟩ := mem_cls.1 (h2.inn c h1)
      exact ⟨k1, k2, k4⟩
    · obtain ⟨c0, e, h1, h2⟩ := hof c hc
      rw [← e]
      exact (mem_cls.1 (h2.inn c h1)).2.2.1
    · obtain ⟨c0, _, h1, h2⟩ := hof c hc
      exact h2.le c h1
    · obtain ⟨c0, _, h1, h2⟩ := hof c hc
      exact h2.idem c h1
    · obtain ⟨c0, e0, h1, h2⟩ := hof a ha
      obtain ⟨d0, e1, h3, h4⟩ := hof b hb
      by_cases e : c0 = d0
      · subst e
        exact h2.ap a h1 b h3 hab hap
      · intro e'
        have k1 := (mem_cls.1 (h2.inn a h1)).2.2.1
        have k2 := (mem_cls.1 (h4.inn b h3)).2.2.1
        rw [e'] at k1
        exact e (k1.symm.trans k2)
theorem aTo_has {ps : List (Int × Int)} {same : List Int} {j : Nat} : ∀ k, j < k → nth same (pth ps j).1.toNat ≠ nth same (pth ps j).2.toNat → aTo ps same k (ordP (nth same (pth ps j).1.toNat) (nth same (pth ps j).2.toNat)) ≠ none
  | k + 1, hj, hne => by
    rw [aTo]
    by_cases e : j = k
    · subst e
      rw [if_pos ⟨hne, rfl⟩]; simp
    · split
      · simp
      · exact aTo_has k (by omega) hne
/-- THE LAW 'Allowed'. -/
theorem cluster_allowed {es : List E3} {same : List Int} {ps : List (Int × Int)} {ent : List Int} (hg : goodB es same ps = true) (h : ClusterP es same ps ent) : allowedB same ps ent = true ∧ costTo es ent es.length ≤ costTo es same es.length := by
  have F := good_facts hg
  obtain ⟨ms, hd, hm, hl, he, A, _, hk⟩ := cluster_facts F h
  have hmk : MarkOk same same.length (Adj (wTo es same es.length)) ms := hm
  obtain ⟨g1, g2, g3⟩ := good_split hg
  have hcls : ∀ i, i < same.length → Cls same same.length (nth same i) := fun i hi => by
    have := same_cls F.v rfl (i := (i : Int)) (by omega) (by omega)
    simpa using this
  constructor
  · unfold allowedB
    have v1 : validB ent = true := by
      unfold validB
      rw [decide_eq_true_iff]
      refine ⟨fun i hi => ?_, by rw [hl]; exact F.v.2⟩
      have hi : i < same.length := by rw [← hl]; exact hi
      have hc := hcls i hi
      obtain ⟨k1, k2, k3⟩ := A.cls _ hc
      have k4 := A.le _ hc
      have k5 := A.idem _ hc
      obtain ⟨_, k6, _⟩ := F.v.1 i hi
      unfold vAt
      rw [he i hi]
      refine ⟨k1, by omega, ?_⟩
      rw [he _ (by omega), k3, k5]
    have v2 : sameB same ent same.length = true := by
      unfold sameB
      rw [List.all_eq_true]
      intro i hi
      have hi := List.mem_range.1 hi
      obtain ⟨k1, k2, k3⟩ := hcls i hi
      rw [he i hi, he _ (by omega), k3]
      simp
    have v3 : ((List.range ps.length).any fun j => clashP same ent (pth ps j).1 (pth ps j).2) = false := by
      rw [List.any_eq_false]
      intro j hj
      have hj := List.mem_range.1 hj
      obtain ⟨q1, q2, q3, q4⟩ := F.p j hj
      unfold clashP
      rw [decide_eq_true_iff]
      rintro ⟨hne, heq⟩
      rw [he _ (by omega), he _ (by omega)] at heq
      have ca := same_cls F.v rfl q1 q2
      have cb := same_cls F.v rfl q3 q4
      have hap := aTo_has ps.length hj hne
      rcases Int.lt_or_gt_of_ne hne with hlt | hgt
      · have eo : ordP (nth same (pth ps j).1.toNat) (nth same (pth ps j).2.toNat) = (nth same (pth ps j).1.toNat, nth same (pth ps j).2.toNat) := by unfold ordP; apply Prod.ext <;> simp only <;> omega
        rw [eo] at hap
        exact A.ap _ _ ca cb hlt hap heq
      · have eo : ordP (nth same (pth ps j).1.toNat) (nth same (pth ps j).2.toNat) = (nth same (pth ps j).2.toNat, nth same (pth ps j).1.toNat) := by unfold ordP; apply Prod.ext <;> simp only <;> omega
        rw [eo] at hap
        exact A.ap _ _ cb ca hgt hap heq.symm
    rw [g1, g3, v1, v2, v3, decide_eq_true hl]
    rfl
  · rw [cost_gk F.v rfl hl F.e he, cost_gk (f := id) F.v rfl rfl F.e (fun i _ => rfl)]
    have h0 : gk same.length (wTo es same es.length) id = 0 := by
      unfold gk gsum
      rw [sum_congr (g := fun _ => 0) (fun p _ => ?_), sum_zero]
      by_cases e : id p.1 = id p.2
      · rw [if_pos e]
        cases hw : wTo es same es.length p with
        | none => rfl
        | some x => have := (F.wc p x hw).2.2; simp only [id] at e; omega
      · rw [if_neg e]
    have h1 : 0 ≤ gk same.length (wTo es same es.length) hd := by
      rw [gk_comps hmk F.wc]
      have hc0 : (gsum same.length fun p => if hd p.1 = hd p.2 ∧ nth ms p.1.toNat ≠ nth ms p.2.toNat then (wTo es same es.length p).getD 0 else 0) = 0 := by
        unfold gsum
        rw [sum_congr (g := fun _ => 0) (fun p _ => ?_), sum_zero]
        by_cases e : hd p.1 = hd p.2 ∧ nth ms p.1.toNat ≠ nth ms p.2.toNat
        · rw [if_pos e]
          cases hw : wTo es same es.length p with
          | none => rfl
          | some x =>
            obtain ⟨c1, c2, _⟩ := F.wc p x hw
            have := A.mark _ c1
            rw [e.1, A.mark _ c2] at this
            exact absurd this.symm e.2
        · rw [if_neg e]
      rw [hc0]
      have := sum_le_sum (l := comps ms same.length) (f := fun _ => 0) (g := fun c => kept same.length (wTo es same es.length) (clsOf same ms same.length c) hd) (fun c hc => hk c hc)
      rw [sum_zero] at this
      omega
    omega

end Go.Proofs.Ytiapdpbcnbgdmaa

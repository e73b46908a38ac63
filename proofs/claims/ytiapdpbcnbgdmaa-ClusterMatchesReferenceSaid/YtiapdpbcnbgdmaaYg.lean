import Derived.Test.YtiapdpbcnbgdmaaYa
import Derived.Test.YtiapdpbcnbgdmaaYe
import Derived.Test.YtiapdpbcnbgdmaaYf
import Derived.Test.YtiapdpbcnbgdmaaYb
import Derived.Test.YtiapdpbcnbgdmaaYd
set_option linter.unusedVariables false
set_option linter.unusedSimpArgs false
namespace Go.Proofs.Ytiapdpbcnbgdmaa
open Go.RowKit

/-! The reference's Cluster: plain part. -/
def RefStep (ins : List E3) (ps : List (Int × Int)) (same ms : List Int) (m : Nat) (c : Int) (E E' : List Int) : Prop :=
  if 8 < (clsOf same ms m c).length then ERun ins ps ms ins.length m c E E'
  else if 1 < (clsOf same ms m c).length then ∃ b, rbest (fun x => costTo ins (entN same (clsOf same ms m c) E x m (clsOf same ms m c).length) ins.length) (enum (aTo ps same ps.length) (clsOf same ms m c) (clsOf same ms m c).length []) = some b ∧ E' = entN same (clsOf same ms m c) E b m (clsOf same ms m c).length
  else E' = E
inductive RChain (ins : List E3) (ps : List (Int × Int)) (same ms : List Int) (m : Nat) : Nat → List Int → Prop
  | start : RChain ins ps same ms m 0 same
  | next {c : Nat} {E E' : List Int} : RChain ins ps same ms m c E → RefStep ins ps same ms m c E E' → RChain ins ps same ms m (c + 1) E'
theorem bet_sum {es : List E3} {mk : List Int} {a b : Int} : ∀ k, k ≤ es.length → betTo es mk a b k = ((es.take k).map fun e => if betC mk a b e then e.w else 0).sum
  | 0, _ => by simp [betTo]
  | k + 1, h => by rw [betTo, bet_sum k (by omega), eth_take (by omega), List.map_append, List.sum_append]; simp
/-- A sum of weights over keys is one over edges. -/
theorem gsum_edges {es : List E3} {same : List Int} {m n : Nat} (Q : Int × Int → Prop) [DecidablePred Q] (hv : ValidP same) (hl : same.length = m) (hg : GoodE m es n) : ∀ k, k ≤ n →
    (gsum m fun p => if Q p then (wTo es same k p).getD 0 else 0) = ((List.range k).map fun j => if nth same (eth es j).a.toNat ≠ nth same (eth es j).b.toNat ∧ Q (ordP (nth same (eth es j).a.toNat) (nth same (eth es j).b.toNat)) then (eth es j).w else 0).sum
  | 0, _ => by
    unfold gsum
    simp only [wTo, Option.getD_none, ite_self, List.range_zero, List.map_nil, List.sum_nil]
    rw [sum_zero]
  | k + 1, hk => by
    obtain ⟨⟨a0, a1, b0, b1⟩, _⟩ := hg.1 k (by omega)
    have ca := (hv.1 (eth es k).a.toNat (by omega))
    have cb := (hv.1 (eth es k).b.toNat (by omega))
    obtain ⟨x, hx⟩ : ∃ x, nth same (eth es k).a.toNat = x := ⟨_, rfl⟩
    obtain ⟨y, hy⟩ : ∃ y, nth same (eth es k).b.toNat = y := ⟨_, rfl⟩
    rw [List.range_succ, List.map_append, List.sum_append, ← gsum_edges Q hv hl hg k (by omega)]
    simp only [List.map_cons, List.map_nil, List.sum_cons, List.sum_nil]
    unfold vAt at ca cb
    rw [hx] at ca ⊢
    rw [hy] at cb ⊢
    have hgr : ordP x y ∈ grid m := mem_grid.2 (by unfold ordP; simp only; omega)
    by_cases hne : x ≠ y
    · have key : (gsum m fun p => if Q p then (wTo es same (k + 1) p).getD 0 else 0) = gsum m fun p => (if Q p then (wTo es same k p).getD 0 else 0) + (if p = ordP x y then (if Q (ordP x y) then (eth es k).w else 0) else 0) := by
        unfold gsum
        refine sum_congr fun p _ => ?_
        have hw : wTo es same (k + 1) p = if x ≠ y ∧ p = ordP x y then some ((wTo es same k p).getD 0 + (eth es k).w) else wTo es same k p := by rw [wTo, hx, hy]; rfl
        by_cases e : p = ordP x y
        · have hw2 : wTo es same (k + 1) p = some ((wTo es same k p).getD 0 + (eth es k).w) := by rw [hw, if_pos ⟨hne, e⟩]
          rw [hw2, if_pos e, Option.getD_some]
          subst e
          by_cases hq : Q (ordP x y)
          · rw [if_pos hq, if_pos hq, if_pos hq]
          · rw [if_neg hq, if_neg hq, if_neg hq]; omega
        · have hw2 : wTo es same (k + 1) p = wTo es same k p := by rw [hw, if_neg (fun h : x ≠ y ∧ p = ordP x y => e h.2)]
          rw [hw2, if_neg e]; omega
      rw [key, gsum_add, gsum_at hgr]
      by_cases hq : Q (ordP x y)
      · rw [if_pos hq, if_pos ⟨hne, hq⟩]; omega
      · rw [if_neg hq, if_neg (fun h => hq h.2)]; omega
    · rw [if_neg (fun h => hne h.1)]
      have key : (gsum m fun p => if Q p then (wTo es same (k + 1) p).getD 0 else 0) = gsum m fun p => if Q p then (wTo es same k p).getD 0 else 0 := by
        unfold gsum
        refine sum_congr fun p _ => ?_
        have hw : wTo es same (k + 1) p = wTo es same k p := by rw [wTo, hx, hy, if_neg (fun h => hne h.1)]
        rw [hw]
      rw [key]; omega
theorem bet_range {es : List E3} {mk : List Int} {a b : Int} : ∀ k, betTo es mk a b k = ((List.range k).map fun j => if betC mk a b (eth es j) then (eth es j).w else 0).sum
  | 0 => rfl
  | k + 1 => by rw [betTo, bet_range k, List.range_succ, List.map_append, List.sum_append]; simp
section
variable {es : List E3} {same ms : List Int} {ps : List (Int × Int)}
theorem ins_facts (hg : goodB es same ps = true) (hm : MarksOf es same ms) :
    goodB (es.filter (keptE ms)) same ps = true ∧ (∀ p, nth ms p.1.toNat = nth ms p.2.toNat → wTo (es.filter (keptE ms)) same (es.filter (keptE ms)).length p = wTo es same es.length p) ∧
      (∀ p, nth ms p.1.toNat ≠ nth ms p.2.toNat → wTo (es.filter (keptE ms)) same (es.filter (keptE ms)).length p = none) ∧ MarksOf (es.filter (keptE ms)) same ms := by
  have F := good_facts hg
  have hmk : MarkOk same same.length (Adj (wTo es same es.length)) ms := hm
  obtain ⟨g1, g2, g3⟩ := good_split hg
  have hrange : ∀ e ∈ es, 0 ≤ e.a ∧ e.a < same.length ∧ 0 ≤ e.b ∧ e.b < same.length := fun e he => by
    obtain ⟨j, hj, e1⟩ := List.getElem_of_mem he
    have := (F.e.1 j hj).1
    have ej : eth es j = e := by simp [eth, List.getD_eq_getElem?_getD, List.getElem?_eq_getElem hj, e1]
    rw [ej] at this
    exact this
  have hg' : goodB (es.filter (keptE ms)) same ps = true := by
    have : linkedB same.length (es.filter (keptE ms)) = true := by
      rw [linkedB_all] at g2 ⊢
      exact ⟨Nat.le_trans (List.length_filter_le _ _) g2.1, fun e he => g2.2 e (List.mem_filter.1 he).1⟩
    unfold goodB
    rw [g1, this, g3]; rfl
  have hkey : ∀ e ∈ es, ∀ p, keyB same p e = true → (keptE ms e = true ↔ nth ms p.1.toNat = nth ms p.2.toNat) := fun e he p hk => by
    obtain ⟨r1, r2, r3, r4⟩ := hrange e he
    unfold keyB at hk
    rw [decide_eq_true_iff] at hk
    obtain ⟨_, rfl⟩ := hk
    have ea := hmk.same_eq Adj.symm' F.v rfl (i := e.a.toNat) (by omega)
    have eb := hmk.same_eq Adj.symm' F.v rfl (i := e.b.toNat) (by omega)
    unfold keptE
    rw [decide_eq_true_iff, ← ea, ← eb]
    simp only
    rcases Int.le_total (nth same e.a.toNat) (nth same e.b.toNat) with h | h
    · rw [Int.min_eq_left h, Int.max_eq_right h]
    · rw [Int.min_eq_right h, Int.max_eq_left h]; exact eq_comm
  have hW : ∀ p, nth ms p.1.toNat = nth ms p.2.toNat → wTo (es.filter (keptE ms)) same (es.filter (keptE ms)).length p = wTo es same es.length p := fun p hp => by
    rw [wTo_all, wTo_all]
    have h1 : (es.filter (keptE ms)).any (keyB same p) = es.any (keyB same p) := by
      rw [Bool.eq_iff_iff, List.any_eq_true, List.any_eq_true]
      constructor
      · rintro ⟨e, he, hk⟩; exact ⟨e, (List.mem_filter.1 he).1, hk⟩
      · rintro ⟨e, he, hk⟩; exact ⟨e, List.mem_filter.2 ⟨he, (hkey e he p hk).2 hp⟩, hk⟩
    have h2 : ((es.filter (keptE ms)).map (valK same p)).sum = (es.map (valK same p)).sum := by
      rw [sum_filter']
      refine sum_congr fun e he => ?_
      by_cases hk : keyB same p e = true
      · rw [if_pos ((hkey e he p hk).2 hp)]
      · have : valK same p e = 0 := by unfold valK; rw [if_neg hk]
        rw [this, ite_self]
    rw [h1, h2]
  have hN : ∀ p, nth ms p.1.toNat ≠ nth ms p.2.toNat → wTo (es.filter (keptE ms)) same (es.filter (keptE ms)).length p = none := fun p hp => by
    rw [wTo_all, if_neg]
    rw [List.any_eq_true]
    rintro ⟨e, he, hk⟩
    obtain ⟨he, hke⟩ := List.mem_filter.1 he
    exact hp ((hkey e he p hk).1 hke)
  refine ⟨hg', hW, hN, ?_⟩
  unfold MarksOf
  refine hmk.congr fun x y => ⟨?_, ?_⟩
  · intro hxy
    obtain ⟨z, hz, h⟩ := hxy
    have hms : nth ms x.toNat = nth ms y.toNat := by
      rcases h with h | h
      · have := F.wc _ _ h; exact hmk.adj this.1 this.2.1 ⟨z, hz, .inl h⟩
      · have := F.wc _ _ h; exact hmk.adj this.2.1 this.1 ⟨z, hz, .inr h⟩
    refine ⟨z, hz, ?_⟩
    rw [hW (x, y) hms, hW (y, x) hms.symm]; exact h
  · rintro ⟨z, hz, h⟩
    refine ⟨z, hz, ?_⟩
    rcases h with h | h
    · left
      by_cases hms : nth ms x.toNat = nth ms y.toNat
      · rw [← hW (x, y) hms]; exact h
      · rw [hN (x, y) hms] at h; cases h
    · right
      by_cases hms : nth ms y.toNat = nth ms x.toNat
      · rw [← hW (y, x) hms]; exact h
      · rw [hN (y, x) hms] at h; cases h
end
/-- the least cost is the most that is kept -/
theorem rbest_best {F : List Int → Int} {W : Int × Int → Option Int} {cl : List Int} {n : Nat} {C : Int} : ∀ (k : Nat) (xs : List (List Int)), xs.length = k → (∀ x ∈ xs, F x = C - keptTo W cl x n) →
    rbest F xs = (bestOf W cl n xs).map Prod.fst ∧ ∀ b l, bestOf W cl n xs = some (b, l) → l = -keptTo W cl b n ∧ b ∈ xs
  | 0, xs, h, _ => by
    obtain rfl := List.eq_nil_of_length_eq_zero h
    exact ⟨rfl, fun b l e => by cases e⟩
  | k + 1, xs, h, hF => by
    have hne : xs ≠ [] := by intro e; subst e; simp at h
    obtain ⟨ys, y, rfl⟩ : ∃ ys y, xs = ys ++ [y] := ⟨xs.dropLast, xs.getLast hne, (List.dropLast_concat_getLast hne).symm⟩
    obtain ⟨ih1, ih2⟩ := rbest_best k ys (by simpa using h) (fun x hx => hF x (List.mem_append_left _ hx))
    rw [rbest_snoc, bestOf_snoc, ih1]
    have hy := hF y (by simp)
    cases hb : bestOf W cl n ys with
    | none => exact ⟨rfl, fun b l e => by simp only [bestStep, Option.some.injEq, Prod.mk.injEq] at e; obtain ⟨rfl, rfl⟩ := e; exact ⟨rfl, by simp⟩⟩
    | some p =>
      obtain ⟨b, l⟩ := p
      obtain ⟨rfl, hbm⟩ := ih2 b l hb
      have hb' := hF b (List.mem_append_left _ hbm)
      simp only [Option.map_some, rstep, bestStep]
      by_cases hlt : F y < F b
      · rw [if_pos hlt, if_pos (by omega)]
        exact ⟨rfl, fun b l e => by simp only [Option.some.injEq, Prod.mk.injEq] at e; obtain ⟨rfl, rfl⟩ := e; exact ⟨rfl, by simp⟩⟩
      · rw [if_neg hlt, if_neg (by omega)]
        exact ⟨rfl, fun b l e => by simp only [Option.some.injEq, Prod.mk.injEq] at e; obtain ⟨rfl, rfl⟩ := e; exact ⟨rfl, List.mem_append_left _ hbm⟩⟩
theorem cls_ok {same ms : List Int} {m : Nat} {c : Int} : ClOk same m (clsOf same ms m c) :=
  ⟨pair_ixs _ _, fun t ht => by have := mem_cls.1 (nth_mem ht); exact ⟨this.1, this.2.1, this.2.2.2⟩⟩
theorem entN_keep {same ms E x : List Int} {m : Nat} {c : Int} (hv : ValidP same) (hl : same.length = m) (hE : E.length = m) (hk : ∀ i, i < m → nth E (nth same i).toNat = nth E i) {i : Nat} (hi : i < m) :
    nth (entN same (clsOf same ms m c) E x m (clsOf same ms m c).length) i = nth (entN same (clsOf same ms m c) E x m (clsOf same ms m c).length) (nth same i).toNat := by
  obtain ⟨s0, s1, s2⟩ := hv.1 i (by omega)
  have hsi : (nth same i).toNat < m := by omega
  by_cases hin : nth same i ∈ clsOf same ms m c
  · obtain ⟨t, ht, e⟩ := nth_of_mem hin
    rw [entN_in hE cls_ok.nodup hi _ (Nat.le_refl _) t ht e.symm, entN_in hE cls_ok.nodup hsi _ (Nat.le_refl _) t ht (s2.trans e.symm)]
  · have hno : ∀ t, t < (clsOf same ms m c).length → nth same i ≠ nth (clsOf same ms m c) t := fun t ht e => hin (by rw [e]; exact nth_mem ht)
    rw [entN_out hE hi _ hno, entN_out hE hsi _ (fun t ht => by rw [s2]; exact hno t ht), hk i hi]
theorem entN_cost {ins : List E3} {same ms E : List Int} {m : Nat} {c : Int} (hv : ValidP same) (hl : same.length = m) (hg : GoodE m ins ins.length) (hE : E.length = m) (hk : ∀ i, i < m → nth E (nth same i).toNat = nth E i)
    (hW : ∀ p x, wTo ins same ins.length p = some x → Cls same m p.1 ∧ Cls same m p.2 ∧ p.1 < p.2) (hM : ∀ p, nth ms p.1.toNat ≠ nth ms p.2.toNat → wTo ins same ins.length p = none) :
    ∃ C, ∀ x, costTo ins (entN same (clsOf same ms m c) E x m (clsOf same ms m c).length) ins.length = C - keptTo (wTo ins same ins.length) (clsOf same ms m c) x (clsOf same ms m c).length := by
  refine ⟨posTo ins ins.length - togTo ins same id ins.length - gsum m (fun p => if ¬ (p.1 ∈ clsOf same ms m c ∧ p.2 ∈ clsOf same ms m c) ∧ nth E p.1.toNat = nth E p.2.toNat then (wTo ins same ins.length p).getD 0 else 0), fun x => ?_⟩
  obtain ⟨X, hX⟩ : ∃ X, entN same (clsOf same ms m c) E x m (clsOf same ms m c).length = X := ⟨_, rfl⟩
  have hXl : X.length = m := by rw [← hX, entN_len]; exact hE
  have hcl : ∀ t, t < (clsOf same ms m c).length → nth X (nth (clsOf same ms m c) t).toNat = nth x t := fun t ht => by
    have h := mem_cls.1 (nth_mem ht)
    rw [← hX]
    exact entN_in hE cls_ok.nodup (by omega) _ (Nat.le_refl _) t ht h.2.2.2
  have hwl : ∀ p, wTo ins same ins.length p ≠ none → p.1 < p.2 := fun p hp => by
    obtain ⟨z, hz⟩ := Option.ne_none_iff_exists'.1 hp
    exact (hW p z hz).2.2
  rw [hX, cost_gk (f := fun c' => nth X c'.toNat) hv hl hXl hg (fun i hi => by rw [← hX]; exact entN_keep hv hl hE hk hi), keptTo_eq (cl := clsOf same ms m c) (f := fun c' => nth X c'.toNat) (pair_ixs _ _) cls_range hwl hcl]
  have key : gk m (wTo ins same ins.length) (fun c' => nth X c'.toNat) = kept m (wTo ins same ins.length) (clsOf same ms m c) (fun c' => nth X c'.toNat) + gsum m (fun p => if ¬ (p.1 ∈ clsOf same ms m c ∧ p.2 ∈ clsOf same ms m c) ∧ nth E p.1.toNat = nth E p.2.toNat then (wTo ins same ins.length p).getD 0 else 0) := by
    unfold gk kept
    rw [← gsum_add]
    unfold gsum
    refine sum_congr fun p _ => ?_
    cases hw : wTo ins same ins.length p with
    | none => simp
    | some z =>
      obtain ⟨⟨a0, a1, a2⟩, ⟨b0, b1, b2⟩, hlt⟩ := hW p z hw
      have hms : nth ms p.1.toNat = nth ms p.2.toNat := Classical.byContradiction fun h => by rw [hM p h] at hw; cases hw
      simp only [Option.getD_some]
      by_cases hin : p.1 ∈ clsOf same ms m c
      · have hin2 : p.2 ∈ clsOf same ms m c := mem_cls.2 ⟨b0, b1, hms ▸ (mem_cls.1 hin).2.2.1, b2⟩
        rw [if_neg (c := ¬ (p.1 ∈ clsOf same ms m c ∧ p.2 ∈ clsOf same ms m c) ∧ _) (fun h => h.1 ⟨hin, hin2⟩)]
        simp only [hin, hin2, true_and]
        omega
      · have hin2 : p.2 ∉ clsOf same ms m c := fun h => hin (mem_cls.2 ⟨a0, a1, by rw [hms]; exact (mem_cls.1 h).2.2.1, a2⟩)
        have e1 : nth X p.1.toNat = nth E p.1.toNat := by
          rw [← hX]
          exact entN_out hE (by omega) _ (fun t ht e => hin (by rw [a2] at e; rw [e]; exact nth_mem ht))
        have e2 : nth X p.2.toNat = nth E p.2.toNat := by
          rw [← hX]
          exact entN_out hE (by omega) _ (fun t ht e => hin2 (by rw [b2] at e; rw [e]; exact nth_mem ht))
        simp only [hin, false_and, if_false, not_false_eq_true, true_and, e1, e2]
        omega
  rw [key]
  omega
/-! greedy -/
structure GRel (same ms : List Int) (m : Nat) (c : Int) (E0 E : List Int) (hd : Int → Int) : Prop where
  len : E.length = m
  inn : ∀ i, i < m → nth ms i = c → nth E i = hd (nth same i)
  out : ∀ i, i < m → nth ms i ≠ c → nth E i = nth E0 i
  mem : ∀ x, x ∈ clsOf same ms m c → hd x ∈ clsOf same ms m c
  idn : ∀ x, x ∉ clsOf same ms m c → hd x = x
section
variable {ins : List E3} {ps : List (Int × Int)} {same ms E0 E : List Int} {m : Nat} {c : Int} {hd : Int → Int} {R : Int → Int → Prop}
theorem rec_cls (hv : ValidP same) (hl : same.length = m) (K : MarkOk same m R ms) (hs : ∀ a b, R a b → R b a) {i : Nat} (hi : i < m) : nth ms i = c ↔ nth same i ∈ clsOf same ms m c := by
  obtain ⟨s0, s1, s2⟩ := hv.1 i (by omega)
  rw [mem_cls, K.same_eq hs hv hl hi]
  constructor
  · intro h; exact ⟨s0, by omega, h, s2⟩
  · intro h; exact h.2.2.1
/-- two records' heads -/
theorem GRel.two (G : GRel same ms m c E0 E hd) (hv : ValidP same) (hl : same.length = m) (K : MarkOk same m R ms) (hs : ∀ a b, R a b → R b a)
    (h0 : ∀ i, i < m → nth ms i ≠ c → ∀ a, a ∈ clsOf same ms m c → nth E0 i ≠ a) {a b : Int} (hlt : a < b) (ha : a ∈ clsOf same ms m c) (hb : b ∈ clsOf same ms m c) {u v : Nat} (hu : u < m) (hv' : v < m) :
    ((nth E u = a ∧ nth E v = b) ∨ (nth E u = b ∧ nth E v = a)) ↔ nth same u ≠ nth same v ∧ (ordP (nth same u) (nth same v)).1 ∈ clsOf same ms m c ∧ (ordP (nth same u) (nth same v)).2 ∈ clsOf same ms m c ∧ ordP (hd (ordP (nth same u) (nth same v)).1) (hd (ordP (nth same u) (nth same v)).2) = (a, b) := by
  have hmem : ((ordP (nth same u) (nth same v)).1 ∈ clsOf same ms m c ∧ (ordP (nth same u) (nth same v)).2 ∈ clsOf same ms m c) ↔ (nth same u ∈ clsOf same ms m c ∧ nth same v ∈ clsOf same ms m c) := by
    unfold ordP
    rcases Int.le_total (nth same u) (nth same v) with h | h
    · simp only [Int.min_eq_left h, Int.max_eq_right h]
    · simp only [Int.min_eq_right h, Int.max_eq_left h]; exact and_comm
  have hord : ordP (hd (ordP (nth same u) (nth same v)).1) (hd (ordP (nth same u) (nth same v)).2) = ordP (hd (nth same u)) (hd (nth same v)) := by
    unfold ordP
    rcases Int.le_total (nth same u) (nth same v) with h | h
    · simp only [Int.min_eq_left h, Int.max_eq_right h]
    · simp only [Int.min_eq_right h, Int.max_eq_left h, Int.min_comm, Int.max_comm]
  rw [hord, ordP_eq hlt, ← and_assoc (a := _ ∈ _), hmem]
  have hin : ∀ w, w < m → (nth E w = a ∨ nth E w = b) → nth same w ∈ clsOf same ms m c := fun w hw h => by
    rw [← rec_cls hv hl K hs hw]
    refine Classical.byContradiction fun hne => ?_
    have e := G.out w hw hne
    rcases h with h | h
    · exact h0 w hw hne a ha (by rw [← e]; exact h)
    · exact h0 w hw hne b hb (by rw [← e]; exact h)
  constructor
  · intro h
    have iu := hin u hu (by rcases h with h | h; exact .inl h.1; exact .inr h.1)
    have iv := hin v hv' (by rcases h with h | h; exact .inr h.2; exact .inl h.2)
    have eu := G.inn u hu ((rec_cls hv hl K hs hu).2 iu)
    have ev := G.inn v hv' ((rec_cls hv hl K hs hv').2 iv)
    rw [eu, ev] at h
    refine ⟨fun e => ?_, ⟨iu, iv⟩, h⟩
    rw [e] at h
    omega
  · rintro ⟨_, ⟨iu, iv⟩, h⟩
    rw [G.inn u hu ((rec_cls hv hl K hs hu).2 iu), G.inn v hv' ((rec_cls hv hl K hs hv').2 iv)]
    exact h
theorem GRel.cand (G : GRel same ms m c E0 E hd) (hv : ValidP same) (hl : same.length = m) (K : MarkOk same m R ms) (hs : ∀ a b, R a b → R b a)
    (h0 : ∀ i, i < m → nth ms i ≠ c → ∀ a, a ∈ clsOf same ms m c → nth E0 i ≠ a) (hp : GoodP m ps ps.length) (a b : Nat) : CandE ps ms m c E a b ↔ Cand (aTo ps same ps.length) (clsOf same ms m c) hd ((a : Int), (b : Int)) := by
  have hap : ∀ (x y : Int), x < y → x ∈ clsOf same ms m c → y ∈ clsOf same ms m c → (apB ps E x y = true ↔ AG (aTo ps same ps.length) hd (x, y)) := fun x y hxy hx hy => by
    have hr : ∀ e ∈ ps, e.1.toNat < m ∧ e.2.toNat < m := fun e he => by
      obtain ⟨j, hj, e1⟩ := List.getElem_of_mem he
      have ej : pth ps j = e := by simp [pth, List.getD_eq_getElem?_getD, List.getElem?_eq_getElem hj, e1]
      have := hp j hj
      rw [ej] at this
      omega
    unfold apB AG
    rw [List.any_eq_true]
    constructor
    · rintro ⟨e, he, h⟩
      rw [decide_eq_true_iff] at h
      obtain ⟨h1, h2⟩ := hr e he
      obtain ⟨k1, k2, k3, k4⟩ := (G.two hv hl K hs h0 hxy hx hy h1 h2).1 h
      refine ⟨ordP (nth same e.1.toNat) (nth same e.2.toNat), ?_, k4⟩
      rw [aTo_all, if_pos]
      · simp
      · refine List.any_eq_true.2 ⟨e, he, ?_⟩
        unfold keyA
        rw [decide_eq_true_iff]
        exact ⟨k1, rfl⟩
    · rintro ⟨p', hp', ho⟩
      rw [aTo_all] at hp'
      split at hp'
      · rename_i hany
        obtain ⟨e, he, hk⟩ := List.any_eq_true.1 hany
        unfold keyA at hk
        rw [decide_eq_true_iff] at hk
        obtain ⟨hne, rfl⟩ := hk
        obtain ⟨h1, h2⟩ := hr e he
        refine ⟨e, he, ?_⟩
        rw [decide_eq_true_iff]
        refine (G.two hv hl K hs h0 hxy hx hy h1 h2).2 ⟨hne, ?_⟩
        have ho' : ordP (hd (ordP (nth same e.1.toNat) (nth same e.2.toNat)).1) (hd (ordP (nth same e.1.toNat) (nth same e.2.toNat)).2) = (x, y) := ho
        have hh := (ordP_eq hxy).1 ho'
        have hin : ∀ z, (hd z = x ∨ hd z = y) → z ∈ clsOf same ms m c := fun z hz => by
          refine Classical.byContradiction fun hn => ?_
          have := G.idn z hn
          rcases hz with hz | hz
          · rw [this] at hz; exact hn (hz ▸ hx)
          · rw [this] at hz; exact hn (hz ▸ hy)
        refine ⟨hin _ (by rcases hh with h | h; exact .inl h.1; exact .inr h.1), hin _ (by rcases hh with h | h; exact .inr h.2; exact .inl h.2), ho'⟩
      · exact absurd rfl hp'
  constructor
  · intro h
    have ham : a < m := by have := h.lt; have := h.ltm; omega
    have ia : (a : Int) ∈ clsOf same ms m c := by
      have e := G.inn a ham h.ma
      rw [h.ha] at e
      rw [e]
      exact G.mem _ ((rec_cls hv hl K hs ham).1 h.ma)
    have ib : (b : Int) ∈ clsOf same ms m c := by
      have e := G.inn b h.ltm h.mb
      rw [h.hb] at e
      rw [e]
      exact G.mem _ ((rec_cls hv hl K hs h.ltm).1 h.mb)
    have sa := (mem_cls.1 ia).2.2.2
    have sb := (mem_cls.1 ib).2.2.2
    rw [Int.toNat_natCast] at sa sb
    have hlt : (a : Int) < b := by have := h.lt; omega
    refine ⟨ia, ib, ?_, ?_, hlt, fun hag => ?_⟩
    · have e := G.inn a ham h.ma
      rw [h.ha, sa] at e
      exact e.symm
    · have e := G.inn b h.ltm h.mb
      rw [h.hb, sb] at e
      exact e.symm
    · have := (hap _ _ hlt ia ib).2 hag
      rw [h.ap] at this
      cases this
  · intro h
    obtain ⟨a0, a1, a2, a3⟩ := mem_cls.1 h.in1
    obtain ⟨b0, b1, b2, b3⟩ := mem_cls.1 h.in2
    have hlt := h.lt
    have h1 := h.h1
    have h2 := h.h2
    simp only [Int.toNat_natCast] at a0 a1 a2 a3 b0 b1 b2 b3 hlt h1 h2
    refine ⟨by omega, by omega, a2, b2, ?_, ?_, ?_⟩
    · rw [G.inn a (by omega) a2, a3, h1]
    · rw [G.inn b (by omega) b2, b3, h2]
    · rw [← Bool.not_eq_true]
      intro hh
      exact h.ap ((hap _ _ hlt h.in1 h.in2).1 hh)
theorem GRel.weight (G : GRel same ms m c E0 E hd) (hv : ValidP same) (hl : same.length = m) (K : MarkOk same m R ms) (hs : ∀ a b, R a b → R b a)
    (h0 : ∀ i, i < m → nth ms i ≠ c → ∀ a, a ∈ clsOf same ms m c → nth E0 i ≠ a) (hg : GoodE m ins ins.length) {a b : Int} (hlt : a < b) (ha : a ∈ clsOf same ms m c) (hb : b ∈ clsOf same ms m c) :
    betTo ins E a b ins.length = WG m (wTo ins same ins.length) (clsOf same ms m c) hd (a, b) := by
  unfold WG
  have := gsum_edges (es := ins) (Q := fun p' => p'.1 ∈ clsOf same ms m c ∧ p'.2 ∈ clsOf same ms m c ∧ ordP (hd p'.1) (hd p'.2) = (a, b)) hv hl hg ins.length (Nat.le_refl _)
  rw [this, bet_range]
  refine sum_congr fun j hj => ?_
  obtain ⟨⟨r0, r1, r2, r3⟩, _⟩ := hg.1 j (List.mem_range.1 hj)
  have hiff : betC E a b (eth ins j) ↔ _ := G.two hv hl K hs h0 hlt ha hb (u := (eth ins j).a.toNat) (v := (eth ins j).b.toNat) (by omega) (by omega)
  by_cases hc : betC E a b (eth ins j)
  · rw [if_pos hc, if_pos (hiff.1 hc)]
  · rw [if_neg hc, if_neg (fun h => hc (hiff.2 h))]
theorem GRel.start (hE : E0.length = m) (htodo : ∀ i, i < m → nth ms i = c → nth E0 i = nth same i) : GRel same ms m c E0 E0 id :=
  ⟨hE, htodo, fun i _ _ => rfl, fun x h => h, fun x _ => rfl⟩
theorem GRel.step (G : GRel same ms m c E0 E hd) (h0 : ∀ i, i < m → nth ms i ≠ c → ∀ a, a ∈ clsOf same ms m c → nth E0 i ≠ a) {a b : Nat} (ha : (a : Int) ∈ clsOf same ms m c) (hb : (b : Int) ∈ clsOf same ms m c) :
    GRel same ms m c E0 (mergeTo E a b m) (fun x => subst a b (hd x)) := by
  have hn : ∀ i, i < m → nth (mergeTo E a b m) i = if nth E i = b then (a : Int) else nth E i := fun i hi => by
    rw [mergeTo_nth m (by rw [G.len]; exact Nat.le_refl _)]
    by_cases h : nth E i = b
    · rw [if_pos ⟨hi, h⟩, if_pos h]
    · rw [if_neg (fun h' => h h'.2), if_neg h]
  refine ⟨by rw [mergeTo_len, G.len], fun i hi hc => ?_, fun i hi hc => ?_, fun x hx => ?_, fun x hx => ?_⟩
  · rw [hn i hi, G.inn i hi hc]; rfl
  · rw [hn i hi, if_neg (by rw [G.out i hi hc]; exact h0 i hi hc _ hb), G.out i hi hc]
  · unfold subst
    split
    · exact ha
    · exact G.mem x hx
  · rw [G.idn x hx]
    unfold subst
    rw [if_neg (fun e : x = (b : Int) => hx (e ▸ hb))]
theorem GRel.run {F : List Int} (hv : ValidP same) (hl : same.length = m) (K : MarkOk same m R ms) (hs : ∀ a b, R a b → R b a) (h0 : ∀ i, i < m → nth ms i ≠ c → ∀ a, a ∈ clsOf same ms m c → nth E0 i ≠ a) (hp : GoodP m ps ps.length) (hg : GoodE m ins ins.length)
    (h : ERun ins ps ms ins.length m c E F) : ∀ hd, GRel same ms m c E0 E hd → ∃ hd', GRun m (wTo ins same ins.length) (aTo ps same ps.length) (clsOf same ms m c) hd hd' ∧ GRel same ms m c E0 F hd' := by
  induction h with
  | stop hst =>
    intro hd G
    refine ⟨hd, .stop fun p hC => ?_, G⟩
    obtain ⟨a0, a1, _⟩ := mem_cls.1 hC.in1
    obtain ⟨b0, b1, _⟩ := mem_cls.1 hC.in2
    have ep : p = ((p.1.toNat : Int), (p.2.toNat : Int)) := by apply Prod.ext <;> simp only <;> omega
    have hC' := hC
    rw [ep] at hC'
    have h1 := hst _ _ ((G.cand hv hl K hs h0 hp _ _).2 hC')
    rw [G.weight hv hl K hs h0 hg hC'.lt hC'.in1 hC'.in2, ← ep] at h1
    exact h1
  | @step E1 F1 a b hB _ ih =>
    intro hd G
    have hC := (G.cand hv hl K hs h0 hp _ _).1 hB.cand
    have hlt : (a : Int) < b := hC.lt
    obtain ⟨hd', h1, h2⟩ := ih _ (G.step h0 hC.in1 hC.in2)
    refine ⟨hd', .step (p := ((a : Int), (b : Int))) ⟨hC, ?_, fun p' hp' => ?_⟩ h1, h2⟩
    · have := hB.pos
      rw [G.weight hv hl K hs h0 hg hlt hC.in1 hC.in2] at this
      exact this
    · obtain ⟨a0, a1, _⟩ := mem_cls.1 hp'.in1
      obtain ⟨b0, b1, _⟩ := mem_cls.1 hp'.in2
      have ep : p' = ((p'.1.toNat : Int), (p'.2.toNat : Int)) := by apply Prod.ext <;> simp only <;> omega
      have hp2 := hp'
      rw [ep] at hp2
      have h3 := hB.best _ _ ((G.cand hv hl K hs h0 hp _ _).2 hp2)
      rw [G.weight hv hl K hs h0 hg hlt hC.in1 hC.in2, G.weight hv hl K hs h0 hg hp2.lt hp2.in1 hp2.in2, ← ep] at h3
      rcases h3 with h3 | ⟨h3, h4⟩
      · exact .inl h3
      · refine .inr ⟨h3, ?_⟩
        unfold cmpP cmpI
        simp only
        repeat' split
        all_goals omega
end
/-! The chain. -/
structure CInv (ins : List E3) (ps : List (Int × Int)) (same ms : List Int) (m c : Nat) (E : List Int) : Prop where
  len : E.length = m
  todo : ∀ i, i < m → (c : Int) ≤ nth ms i → nth E i = nth same i
  cls : ∀ i, i < m → Cls same m (nth E i) ∧ nth ms (nth E i).toNat = nth ms i
  keep : ∀ i, i < m → nth E (nth same i).toNat = nth E i
  done : ∀ c', c' ∈ comps ms m → c' < (c : Int) → ∃ hs, Solved m (wTo ins same ins.length) (aTo ps same ps.length) (clsOf same ms m c') hs ∧ ∀ t, t < (clsOf same ms m c').length → nth E (nth (clsOf same ms m c') t).toNat = nth hs t
section
variable {ins : List E3} {ps : List (Int × Int)} {same ms E E' : List Int} {m c : Nat}
/-- what one component's step gives -/
def StepP (ins : List E3) (ps : List (Int × Int)) (same ms : List Int) (m : Nat) (c : Int) (E E' : List Int) : Prop :=
  E'.length = m ∧ (∀ i, i < m → nth ms i ≠ c → nth E' i = nth E i) ∧ (c ∈ comps ms m → ∃ (hs : List Int) (f : Int → Int), Solved m (wTo ins same ins.length) (aTo ps same ps.length) (clsOf same ms m c) hs ∧ (∀ t, t < (clsOf same ms m c).length → f (nth (clsOf same ms m c) t) = nth hs t) ∧ ∀ i, i < m → nth ms i = c → nth E' i = f (nth same i))
theorem CInv.step (I : CInv ins ps same ms m c E) (F : Facts ins same ps) (hl : same.length = m) (K : MarkOk same m (Adj (wTo ins same ins.length)) ms) (hM : ∀ p, nth ms p.1.toNat ≠ nth ms p.2.toNat → wTo ins same ins.length p = none) (h : RefStep ins ps same ms m c E E') : StepP ins ps same ms m c E E' := by
  subst hl
  have hself : ∀ i, i < same.length → nth ms i = c → (c : Int) ∈ comps ms same.length := fun i hi e => by
    have hk := (K.2 i hi).1
    have := K.self Adj.symm' hi
    rw [e] at hk this
    exact mem_comps.2 ⟨by omega, hk.2.1, this⟩
  unfold RefStep at h
  split at h
  · rename_i hbig
    have h0 : ∀ i, i < same.length → nth ms i ≠ c → ∀ a, a ∈ clsOf same ms same.length c → nth E i ≠ a := fun i hi hne a ha e => by
      have h1 := (I.cls i hi).2
      rw [e, (mem_cls.1 ha).2.2.1] at h1
      exact hne h1.symm
    obtain ⟨hd, h1, h2⟩ := GRel.run F.v rfl K Adj.symm' h0 F.p F.e h id (.start I.len fun i hi e => I.todo i hi (by omega))
    exact ⟨h2.len, h2.out, fun _ => ⟨(clsOf same ms same.length c).map hd, hd, .inr ⟨hbig, hd, h1, rfl⟩, fun t ht => by simp [nth, List.getD_eq_getElem?_getD, ht], h2.inn⟩⟩
  · rename_i hbig
    split at h
    · rename_i h1
      obtain ⟨b, hb, rfl⟩ := h
      have hno : ∀ i, nth ms i ≠ c → ∀ t, t < (clsOf same ms same.length c).length → i < same.length → nth same i ≠ nth (clsOf same ms same.length c) t := fun i hne t ht hi e => hne ((rec_cls F.v rfl K Adj.symm' hi).2 (by rw [e]; exact nth_mem ht))
      refine ⟨by rw [entN_len]; exact I.len, fun i hi hne => entN_out I.len hi _ (fun t ht => hno i hne t ht hi), fun _ => ?_⟩
      obtain ⟨C, hC⟩ := entN_cost (c := c) F.v rfl F.e I.len I.keep F.wc hM
      obtain ⟨k1, k2⟩ := rbest_best (F := fun x => costTo ins (entN same (clsOf same ms same.length c) E x same.length (clsOf same ms same.length c).length) ins.length) (W := wTo ins same ins.length) (cl := clsOf same ms same.length c) (n := (clsOf same ms same.length c).length) (C := C) _ (enum (aTo ps same ps.length) (clsOf same ms same.length c) (clsOf same ms same.length c).length []) rfl (fun x _ => hC x)
      rw [hb] at k1
      cases hbo : bestOf (wTo ins same ins.length) (clsOf same ms same.length c) (clsOf same ms same.length c).length (enum (aTo ps same ps.length) (clsOf same ms same.length c) (clsOf same ms same.length c).length []) with
      | none => rw [hbo] at k1; cases k1
      | some p =>
        obtain ⟨b', l⟩ := p
        rw [hbo] at k1
        obtain rfl : b = b' := Option.some.inj k1
        refine ⟨b, fun c' => nth (entN same (clsOf same ms same.length c) E b same.length (clsOf same ms same.length c).length) c'.toNat, .inl ⟨by omega, l, hbo⟩, fun t ht => ?_, fun i hi _ => entN_keep F.v rfl I.len I.keep hi⟩
        have h := mem_cls.1 (nth_mem ht)
        exact entN_in I.len cls_ok.nodup (by omega) _ (Nat.le_refl _) t ht h.2.2.2
    · rename_i h1
      subst h
      refine ⟨I.len, fun i _ _ => rfl, fun hc => ⟨clsOf same ms same.length c, id, .inl ⟨by omega, ?_⟩, fun t _ => rfl, fun i hi e => I.todo i hi (by omega)⟩⟩
      obtain ⟨c0, c1, c2⟩ := mem_comps.1 hc
      have hcc : (c : Int) ∈ clsOf same ms same.length c := by
        have hk := (K.2 (c : Int).toNat (by omega)).1
        rw [c2] at hk
        exact mem_cls.2 ⟨c0, c1, c2, hk.2.2⟩
      have hlen : (clsOf same ms same.length c).length = 1 := by
        have := List.length_pos_of_mem hcc
        omega
      obtain ⟨x, hx⟩ := List.length_eq_one_iff.1 hlen
      rw [hx]
      refine ⟨-keptTo (wTo ins same ins.length) [x] [x] 1, ?_⟩
      simp [enum, bestOf, bestStep, clashB, nth, List.range_succ]
theorem CInv.next (I : CInv ins ps same ms m c E) (F : Facts ins same ps) (hl : same.length = m) (K : MarkOk same m (Adj (wTo ins same ins.length)) ms) (h : StepP ins ps same ms m c E E') : CInv ins ps same ms m (c + 1) E' := by
  subst hl
  obtain ⟨h1, h2, h3⟩ := h
  have hself : ∀ i, i < same.length → nth ms i = c → (c : Int) ∈ comps ms same.length := fun i hi e => by
    have hk := (K.2 i hi).1
    have := K.self Adj.symm' hi
    rw [e] at hk this
    exact mem_comps.2 ⟨by omega, hk.2.1, this⟩
  have hsr : ∀ i, i < same.length → (nth same i).toNat < same.length ∧ nth same (nth same i).toNat = nth same i := fun i hi => by
    obtain ⟨s0, s1, s2⟩ := F.v.1 i hi
    exact ⟨by omega, s2⟩
  refine ⟨h1, fun i hi hle => ?_, fun i hi => ?_, fun i hi => ?_, fun c' hc' hlt => ?_⟩
  · rw [h2 i hi (by omega)]; exact I.todo i hi (by omega)
  · by_cases e : nth ms i = c
    · obtain ⟨hs, f, hS, hf, hE⟩ := h3 (hself i hi e)
      have hsol := (hS.sol (pair_ixs _ _) cls_range F.wl F.al F.av hf).1
      rw [hE i hi e]
      have := mem_cls.1 (hsol.inn _ ((rec_cls F.v rfl K Adj.symm' hi).1 e))
      exact ⟨⟨this.1, this.2.1, this.2.2.2⟩, by rw [this.2.2.1, e]⟩
    · rw [h2 i hi e]; exact I.cls i hi
  · have hms := K.same_eq Adj.symm' F.v rfl hi
    by_cases e : nth ms i = c
    · obtain ⟨hs, f, hS, hf, hE⟩ := h3 (hself i hi e)
      rw [hE i hi e, hE _ (hsr i hi).1 (by rw [hms]; exact e), (hsr i hi).2]
    · rw [h2 i hi e, h2 _ (hsr i hi).1 (by rw [hms]; exact e)]; exact I.keep i hi
  · by_cases e : c' = c
    · subst e
      obtain ⟨hs, f, hS, hf, hE⟩ := h3 hc'
      refine ⟨hs, hS, fun t ht => ?_⟩
      have h := mem_cls.1 (nth_mem ht)
      rw [hE _ (by omega) h.2.2.1, h.2.2.2, hf t ht]
    · obtain ⟨hs, hS, hE⟩ := I.done c' hc' (by omega)
      refine ⟨hs, hS, fun t ht => ?_⟩
      have h := mem_cls.1 (nth_mem ht)
      rw [h2 _ (by omega) (by rw [h.2.2.1]; exact e), hE t ht]
end
/-- What the reference answers is what the program answers. -/
theorem ref_cluster {es : List E3} {same ms : List Int} {ps : List (Int × Int)} {a b : List Int} (hg : goodB es same ps = true) (hm : MarksOf es same ms) (ha : ClusterP es same ps a) (hb : RChain (es.filter (keptE ms)) ps same ms same.length same.length b) : a = b := by
  obtain ⟨hg', hW, hN, hm'⟩ := ins_facts hg hm
  have F := good_facts hg'
  have K : MarkOk same same.length (Adj (wTo (es.filter (keptE ms)) same (es.filter (keptE ms)).length)) ms := hm'
  have hI : ∀ c E, RChain (es.filter (keptE ms)) ps same ms same.length c E → CInv (es.filter (keptE ms)) ps same ms same.length c E := fun c E h => by
    induction h with
    | start =>
      refine ⟨rfl, fun i _ _ => rfl, fun i hi => ?_, fun i hi => ?_, fun c' hc' hlt => ?_⟩
      · obtain ⟨s0, s1, s2⟩ := F.v.1 i hi
        exact ⟨⟨s0, by omega, s2⟩, K.same_eq Adj.symm' F.v rfl hi⟩
      · exact (F.v.1 i hi).2.2
      · have := (mem_comps.1 hc').1
        omega
    | next _ hs ih => exact ih.next F rfl K (ih.step F rfl K hN hs)
  have I := hI _ _ hb
  refine (cluster_components (b := b) hg hm ha).2 b ⟨ms, b, hm', fun c hc => ?_, ?_⟩
  · exact I.done c hc (mem_comps.1 hc).2.1
  · refine nth_ext (by rw [I.len]; simp) fun i hi => ?_
    have hi : i < same.length := by rw [← I.len]; exact hi
    rw [← I.keep i hi]
    simp [nth, List.getD_eq_getElem?_getD, List.getElem?_eq_getElem hi]

end Go.Proofs.Ytiapdpbcnbgdmaa

set_option linter.unusedVariables false
set_option linter.unusedSimpArgs false
namespace Go.Proofs.Ytiapdpbcnbgdmaa
open Go.RowKit

theorem take_filter2 {es : List E3} {P : E3 → Bool} {k : Nat} (h : k < es.length) : (es.take (k + 1)).filter P = (es.take k).filter P ++ if P (eth es k) = true then [eth es k] else [] := by
  rw [eth_take h, List.filter_append, List.filter_cons, List.filter_nil]
/-- the classes of a component, from the first i records -/
def clsT (same ms : List Int) (c : Int) (i : Nat) : List Int := if nth ms c.toNat = c then clsOf same ms i c else []
theorem clsT_step {same ms : List Int} {c : Int} {i : Nat} : clsT same ms c (i + 1) = clsT same ms c i ++ if nth ms c.toNat = c ∧ nth ms i = c ∧ nth same i = i then [(i : Int)] else [] := by
  unfold clsT
  by_cases h : nth ms c.toNat = c
  · simp only [h, if_true, true_and]
    unfold clsOf
    rw [ixs_succ]
    simp
  · simp [h]
theorem clsT_end {same ms : List Int} {c : Int} {m : Nat} {R : Int → Int → Prop} (K : MarkOk same m R ms) (hs : ∀ a b, R a b → R b a) : clsT same ms c m = clsOf same ms m c := by
  unfold clsT
  split
  · rfl
  · rename_i h
    symm
    rw [List.eq_nil_iff_forall_not_mem]
    intro d hd
    obtain ⟨d0, d1, d2, _⟩ := mem_cls.1 hd
    have := K.self hs (i := d.toNat) (by omega)
    rw [d2] at this
    exact h this
set_option maxRecDepth 100000 in
set_option maxHeartbeats 8000000 in
theorem refCluster_any (A : Option Addr) (n c : Nat) (es : List E3) (A1 : Option Addr) (m c1 : Nat) (same : List Int) (A2 : Option Addr) (q c2 : Nat) (ps : List (Int × Int)) (w : World)
    (h : REdges w A n es) (h1 : RInts w A1 m same) (h2 : RPairs w A2 q ps) (hm : m ≤ 40) (hn : n ≤ 80) :
    Calls Try.prog 13 #[.slice A n c, .slice A1 m c1, .slice A2 q c2] w fun e w' => ∃ v k, e = .returned (.tuple #[v, .int .i64 k]) ∧ Ext w w' ∧
      (if goodB es same ps = true then k = 0 ∧ ∃ ms A' c' ent, MarksOf es same ms ∧ RChain (es.filter (keptE ms)) ps same ms m m ent ∧ v = .slice A' m c' ∧ RInts w' A' m ent else k = 1 ∧ v = .slice none 0 0) := by
  have hel := h.len
  have hsl := h1.len
  have hpl := h2.len
  subst hsl hel hpl
  have hc1 := refValid_any A1 same.length c1 same w h1
  have hc2 := fun W (hW : Ext w W) => refLinked_any same.length A es.length c es W (h.ext hW)
  have hc3 := fun W (hW : Ext w W) => refPaired_any same.length A2 ps.length c2 ps W (h2.ext hW)
  cases hvb : validB same with
  | false =>
    rw [hvb] at hc1
    have hgood : goodB es same ps = false := by simp [goodB, hvb]
    simp only [hgood, Bool.false_eq_true, if_false]
    go_enter Try.func13, Try.ntmps13
    go_wp2_with (go_at_call 36; refine hc1.mono ?_; rintro e w1 ⟨rfl, hx1⟩)
    refine bodyPost_ret (v := .tuple #[.slice none 0 0, .int .i64 1]) (by simp [results, Try.results13, go_sem]) rfl ⟨_, _, rfl, hx1, rfl, rfl⟩
  | true =>
    rw [hvb] at hc1
    cases hlb : linkedB same.length es with
    | false =>
      rw [hlb] at hc2
      have hgood : goodB es same ps = false := by simp [goodB, hlb]
      simp only [hgood, Bool.false_eq_true, if_false]
      go_enter Try.func13, Try.ntmps13
      go_wp2_with (first | (go_at_call 36; refine hc1.mono ?_; rintro e w1 ⟨rfl, hx1⟩) | (go_at_call 37; refine (hc2 _ hx1).mono ?_; rintro e w2 ⟨rfl, hx2⟩))
      refine bodyPost_ret (v := .tuple #[.slice none 0 0, .int .i64 1]) (by simp [results, Try.results13, go_sem]) rfl ⟨_, _, rfl, Ext.trans hx1 hx2, rfl, rfl⟩
    | true =>
      rw [hlb] at hc2
      cases hpb : pairedB same.length ps with
      | false =>
        rw [hpb] at hc3
        have hgood : goodB es same ps = false := by simp [goodB, hpb]
        simp only [hgood, Bool.false_eq_true, if_false]
        go_enter Try.func13, Try.ntmps13
        go_wp2_with (first | (go_at_call 36; refine hc1.mono ?_; rintro e w1 ⟨rfl, hx1⟩) | (go_at_call 37; refine (hc2 _ hx1).mono ?_; rintro e w2 ⟨rfl, hx2⟩) | (go_at_call 38; refine (hc3 _ (Ext.trans hx1 hx2)).mono ?_; rintro e w3 ⟨rfl, hx3⟩))
        refine bodyPost_ret (v := .tuple #[.slice none 0 0, .int .i64 1]) (by simp [results, Try.results13, go_sem]) rfl ⟨_, _, rfl, Ext.trans (Ext.trans hx1 hx2) hx3, rfl, rfl⟩
      | true =>
        rw [hpb] at hc3
        have hgood : goodB es same ps = true := by simp [goodB, hvb, hlb, hpb]
        have HGD := Lib.hid hgood
        simp only [hgood, if_true]
        clear hgood
        have hv := validB_good hvb
        have ge := (linkedB_good rfl hlb).1
        have gp := pairedB_good rfl hpb
        have hc4 := fun W (hW : Ext w W) => marks_any A es.length c es A1 same.length c1 same W (h.ext hW) (h1.ext hW) hv ge
        clear hvb hlb hpb
        go_enter Try.func13, Try.ntmps13
        go_upto_region 6 with (first
          | (go_at_call 36; refine hc1.mono ?_; rintro e w1 ⟨rfl, hx1⟩)
          | (go_at_call 37; refine (hc2 _ hx1).mono ?_; rintro e w2 ⟨rfl, hx2⟩)
          | (go_at_call 38; refine (hc3 _ (Ext.trans hx1 hx2)).mono ?_; rintro e w3 ⟨rfl, hx3⟩; have hx13 := Ext.trans (Ext.trans hx1 hx2) hx3)
          | (go_at_call 39; refine (hc4 _ hx13).mono ?_; rintro e w4 ⟨v, ms, rfl, hrowM, hmk, hx4⟩))
        have hxw4 := Ext.trans hx13 hx4
        obtain ⟨AM, cM, rfl, -⟩ := own_slice hrowM
        have hMr := own_rints hrowM (by omega)
        have HMK := Lib.hid hmk
        obtain ⟨v1, W1, happ, hown1, hg1, -, -⟩ := append_ints (c := c1) (own_empty3 w4) ((h1.ext hxw4).ext (ext_alloc w4 (.cells #[] 3))) (by simp) (by simp) (by omega)
        rw [List.nil_append] at hown1
        have hx5 : Ext w4 W1 := (ext_alloc w4 (.cells #[] 3)).grown hg1 (by simp) (fun k e => by
          have : w4.heap.size = k := by simpa [Value.ownBlock] using e
          omega)
        obtain ⟨A5, c5, rfl, -⟩ := own_slice hown1
        have hEr := own_rints hown1 (by omega)
        have hxw5 := Ext.trans hxw4 hx5
        clear hc1 hc2 hc3 hc4 hg1 hown1 hrowM hmk
        go_wp2_with (at_builtin; refine wpList_app happ rfl rfl rfl rfl ?_; clear happ)
        obtain ⟨wk, hwk⟩ : ∃ wk, wk = W1 := ⟨W1, rfl⟩
        subst hwk
        go_loopw [10, 11] (fun s t wx => ∃ k : Nat, k ≤ es.length ∧ t = .int .i64 k ∧ wx.ownsRow wk.heap.size 40 3 s ((es.take k).filter (keptE ms)).length (ecells ((es.take k).filter (keptE ms))) ∧ Ext wk wx) (fun _ t _ => es.length - (intOf t).toNat)
        case atStart => exact ⟨0, Nat.zero_le _, rfl, World.ownsRow_nil _ _ _ _, ⟨rfl, rfl, rfl, Nat.le_refl _, fun _ _ => rfl⟩⟩
        case round =>
          obtain ⟨k, hk, rfl, hrowE, hxx⟩ := hrel
          by_cases hkl : k < es.length
          · obtain ⟨b, off, rfl, hcell⟩ := h.cell (by omega)
            obtain ⟨⟨a0, a1, b0, b1⟩, w1, w2⟩ := ge.1 k hkl
            obtain ⟨bM, oM, rfl, hcM⟩ := hMr.cell (by omega)
            have hx6 := Ext.trans hxw5 hxx
            have hx46 := Ext.trans hx5 hxx
            have k1 := cell_ext hx6 (hcell k hkl).1
            have k2 := cell_ext hx6 (hcell k hkl).2.1
            have k3 := cell_ext hx6 (hcell k hkl).2.2
            have htf := take_filter2 (P := keptE ms) hkl
            obtain ⟨ea, eb, ew, hE⟩ : ∃ ea eb ew, Hid (eth es k = ⟨ea, eb, ew⟩) := ⟨_, _, _, rfl⟩
            rw [hE.out] at k1 k2 k3 htf a0 a1 b0 b1
            dsimp only at k1 k2 k3 htf a0 a1 b0 b1
            have han : ((ea.toNat : Nat) : Int) = ea := Int.toNat_of_nonneg a0
            have hbn : ((eb.toNat : Nat) : Int) = eb := Int.toNat_of_nonneg b0
            have q1 := cell_ext hx46 (hcM ea.toNat (by omega))
            have q2 := cell_ext hx46 (hcM eb.toNat (by omega))
            have hlenE : ((es.take k).filter (keptE ms)).length ≤ 80 := Nat.le_trans (List.length_filter_le _ _) (by rw [List.length_take]; omega)
            have hsz := hxx.size
            clear hcell w1 w2
            by_cases hcond : nth ms ea.toNat = nth ms eb.toNat
            · have hb := beq_t hcond
              have hkE : keptE ms ⟨ea, eb, ew⟩ = true := decide_eq_true hcond
              rw [if_pos hkE] at htf
              clear hcond hkE
              go_wp2
              go_quiet (fail)
              obtain ⟨Wq, hWq⟩ : ∃ Wq, Hid (Wq = wr.drewN nq) := ⟨_, rfl⟩
              have hxq : Ext wr Wq := by rw [hWq.out]; exact ext_drewN _ _
              rw [← hWq.out]
              obtain ⟨v2, W2, happ, hown2, hg2, -⟩ := append_edge1 ⟨ea, eb, ew⟩ (own_ext hrowE hxq) (Nat.le_trans hsz hxq.size) (by omega)
              rw [← htf] at hown2
              dsimp only at happ
              have k1 := cell_ext hxq k1
              have k2 := cell_ext hxq k2
              have k3 := cell_ext hxq k3
              have hx2 := (Ext.trans hxx hxq).grown hg2 (Nat.le_trans hsz hxq.size) (fun k e => (own_block hrowE e).1)
              have HF := Lib.hid (And.intro hown2 hx2)
              clear hown2 hx2 hg2 hrowE htf q1 q2
              go_wp2_with (at_builtin; refine wpList_app happ rfl rfl rfl rfl ?_)
              go_roundw
              case rel => exact ⟨k + 1, by omega, by go_num, HF.out.1, HF.out.2⟩
              case measure => (simp [intOf]; omega)
            · have hb := beq_f hcond
              have hkE : ¬ keptE ms ⟨ea, eb, ew⟩ = true := fun h => hcond (of_decide_eq_true h)
              rw [if_neg hkE, List.append_nil] at htf
              rw [← htf] at hrowE
              have HF := Lib.hid hrowE
              clear hcond hkE hrowE htf
              go_wp2
              go_quiet (fail)
              go_wp2
              go_roundw
              case rel => exact ⟨k + 1, by omega, by go_num, own_ext HF.out (ext_drewN _ _), Ext.trans hxx (ext_drewN _ _)⟩
              case measure => (simp [intOf]; omega)
          · obtain rfl : k = es.length := by omega
            rw [List.take_length] at hrowE
            obtain ⟨hgi, hWi, hNi, hMi⟩ := ins_facts HGD.out (show MarksOf es same ms from HMK.out)
            have Fi := good_facts hgi
            obtain ⟨es2, hes2⟩ : ∃ es2, Hid (es.filter (keptE ms) = es2) := ⟨_, rfl⟩
            rw [hes2.out] at hrowE Fi
            have hl2 : es2.length ≤ 80 := by rw [← hes2.out]; exact Nat.le_trans (List.length_filter_le _ _) hn
            obtain ⟨A9, c9, hv9, hr9⟩ := own_edges hrowE (by omega)
            subst hv9
            have HFi := Lib.hid Fi
            have hx6 := Ext.trans hxw5 hxx
            have hx46 := Ext.trans hx5 hxx
            have hM6 := hMr.ext hx46
            have hE6 := hEr.ext hxx
            have h16 := h1.ext hx6
            have h26 := h2.ext hx6
            obtain ⟨wj, hwj⟩ : ∃ wj, wj = wr := ⟨wr, rfl⟩
            subst hwj
            have HMO := Lib.hid (show MarksOf es same ms from HMK.out)
            clear hgi hWi hNi hMi hrowE Fi
            go_wp2
            go_loopg [9, 12] same.length (fun gg t9 t12 wx => ∃ (cc : Nat) (AE : Option Addr) (cE : Nat) (E : List Int), same.length - cc ≤ gg ∧ cc ≤ same.length ∧ t12 = .int .i64 cc ∧ t9 = .slice AE same.length cE ∧ Hid (RChain es2 ps same ms same.length cc E) ∧ RInts wx AE same.length E ∧ Ext wj wx)
            case atStart => exact ⟨0, A5, c5, same, Nat.le_refl _, Nat.zero_le _, rfl, rfl, Lib.hid .start, hE6, ⟨rfl, rfl, rfl, Nat.le_refl _, fun _ _ => rfl⟩⟩
            case round =>
              obtain ⟨cc, AE, cE, E, hgg, hcc, rfl, rfl, hch, hE, hxj⟩ := hrel
              by_cases hlt : cc < same.length
              · obtain ⟨wl, hwl⟩ : ∃ wl, wl = wr := ⟨wr, rfl⟩
                subst hwl
                have hM7 := hM6.ext hxj
                have h17 := h16.ext hxj
                obtain ⟨bM, oM, rfl, hcM⟩ := hM7.cell (by omega)
                obtain ⟨bS, oS, rfl, hcS⟩ := h17.cell (by omega)
                go_wp2
                go_loopw [13, 14] (fun s t wx => ∃ i : Nat, i ≤ same.length ∧ t = .int .i64 i ∧ wx.ownsRow wl.heap.size 3 1 s (clsT same ms cc i).length (ints (clsT same ms cc i)) ∧ Ext wl wx) (fun _ t _ => same.length - (intOf t).toNat)
                case atStart => exact ⟨0, Nat.zero_le _, rfl, by rw [show clsT same ms (cc : Int) 0 = [] by unfold clsT clsOf ixs; simp]; exact World.ownsRow_nil _ _ _ _, ⟨rfl, rfl, rfl, Nat.le_refl _, fun _ _ => rfl⟩⟩
                case round =>
                  obtain ⟨i, hi, rfl, hrowC, hxc⟩ := hrel
                  have hclen : (clsT same ms cc i).length ≤ 40 := by
                    unfold clsT
                    split
                    · exact Nat.le_trans (len_ixs _ _) (by omega)
                    · simp
                  have hszc := hxc.size
                  by_cases hil : i < same.length
                  · have q0 := cell_ext hxc (hcM cc hlt)
                    have q1 := cell_ext hxc (hcM i hil)
                    have q2 := cell_ext hxc (hcS i hil)
                    have hst := clsT_step (same := same) (ms := ms) (c := (cc : Int)) (i := i)
                    rw [Int.toNat_natCast] at hst
                    by_cases e0 : nth ms cc = cc
                    case neg =>
                      have hbq0 := beq_f e0
                      rw [if_neg (fun h => e0 h.1), List.append_nil] at hst
                      rw [← hst] at hrowC
                      have HF := Lib.hid hrowC
                      clear e0 hst hrowC
                      go_wp2
                      go_roundw
                      case rel => exact ⟨i + 1, by omega, by go_num, HF.out, hxc⟩
                      case measure => (simp [intOf]; omega)
                    by_cases e1 : nth ms i = cc
                    case neg =>
                      have hbq1 := beq_f e1
                      rw [if_neg (fun h => e1 h.2.1), List.append_nil] at hst
                      rw [← hst] at hrowC
                      have HF := Lib.hid hrowC
                      clear e1 hst hrowC
                      go_wp2
                      go_roundw
                      case rel => exact ⟨i + 1, by omega, by go_num, HF.out, hxc⟩
                      case measure => (simp [intOf]; omega)
                    by_cases e2 : nth same i = i
                    case neg =>
                      have hbq2 := beq_f e2
                      rw [if_neg (fun h => e2 h.2.2), List.append_nil] at hst
                      rw [← hst] at hrowC
                      have HF := Lib.hid hrowC
                      clear e2 hst hrowC
                      go_wp2
                      go_roundw
                      case rel => exact ⟨i + 1, by omega, by go_num, HF.out, hxc⟩
                      case measure => (simp [intOf]; omega)
                    have hq0 := beq_t e0
                    have hq1 := beq_t e1
                    have hq2 := beq_t e2
                    rw [if_pos ⟨e0, e1, e2⟩] at hst
                    obtain ⟨v2, W2, happ, hown2, hg2, -, -⟩ := append_one Try.underlying23 info3 rfl (by omega) (.int .i64 i) rfl (by rw [List.length_map]; exact hrowC : wr.ownsRow _ 3 1 u13 (ints (clsT same ms cc i)).length (ints (clsT same ms cc i))) hszc (by rw [List.length_map]; omega)
                    have e3 : ints (clsT same ms cc i) ++ [Value.int .i64 i] = ints (clsT same ms cc (i + 1)) := by rw [hst]; simp
                    rw [e3, List.length_map] at hown2
                    have hx2 := hxc.grown hg2 hszc (fun k e => (own_block hrowC e).1)
                    have HF := Lib.hid (And.intro hown2 hx2)
                    clear hown2 hx2 hg2 e3 hst hrowC e0 e1 e2
                    go_wp2_with (at_builtin; refine wpList_app happ rfl rfl rfl rfl ?_)
                    go_roundw
                    case rel => exact ⟨i + 1, by omega, by go_num, HF.out.1, HF.out.2⟩
                    case measure => (simp [intOf]; omega)
                  · obtain rfl : i = same.length := by omega
                    rw [clsT_end HMK.out Adj.symm'] at hrowC
                    obtain ⟨cl, hcl⟩ : ∃ cl, Hid (clsOf same ms same.length cc = cl) := ⟨_, rfl⟩
                    have HCO := Lib.hid (cls_ok (same := same) (ms := ms) (m := same.length) (c := (cc : Int)))
                    have hcl40 : cl.length ≤ 40 := by rw [← hcl.out]; exact Nat.le_trans (len_ixs _ _) (by omega)
                    rw [hcl.out] at hrowC HCO
                    obtain ⟨AC, cC, rfl, -⟩ := own_slice hrowC
                    have hCr := own_rints hrowC (by omega)
                    have hxjc := Ext.trans hxj hxc
                    have hEx := hE.ext hxc
                    have hstep : ∀ E', (if 8 < cl.length then ERun es2 ps ms es2.length same.length (cc : Int) E E' else if 1 < cl.length then ∃ b, rbest (fun x => costTo es2 (entN same cl E x same.length cl.length) es2.length) (enum (aTo ps same ps.length) cl cl.length []) = some b ∧ E' = entN same cl E b same.length cl.length else E' = E) → RChain es2 ps same ms same.length (cc + 1) E' := fun E' hE' => .next hch.out (by unfold RefStep; rw [hcl.out]; exact hE')
                    have HST := Lib.hid hstep
                    clear hstep hrowC
                    by_cases hbig : 8 < cl.length
                    · have hd : decide ((8 : Int) < (cl.length : Nat)) = true := decide_eq_true (by omega)
                      have hgr := refGreedy_any A9 es2.length c9 es2 A2 ps.length c2 ps AE same.length cE E (some ⟨bM, oM, none⟩) cM ms cc wr (hr9.ext hxjc) (h26.ext hxjc) hEx (hM7.ext hxc) (by omega) HFi.out.e HFi.out.p
                      go_wp2_with (go_at_call 40; refine hgr.mono ?_; rintro e w5 ⟨v, E', rfl, hrowF, hrun, hx7⟩)
                      obtain ⟨AF, cF, rfl, -⟩ := own_slice hrowF
                      have hFr := own_rints hrowF (by omega)
                      have HN := Lib.hid (HST.out E' (by rw [if_pos hbig]; exact hrun))
                      clear hrowF hrun hch
                      go_roundg (same.length - (cc + 1))
                      case measure => exact Nat.lt_of_lt_of_le (Nat.sub_lt_sub_left hlt (Nat.lt_succ_self cc)) hgg
                      case rel => exact ⟨cc + 1, AF, cF, E', Nat.le_refl _, by omega, by go_num, rfl, HN, hFr, Ext.trans hxjc hx7⟩
                    · have hd : decide ((8 : Int) < (cl.length : Nat)) = false := decide_eq_false (by omega)
                      by_cases hone : 1 < cl.length
                      · have hd1 : decide ((1 : Int) < (cl.length : Nat)) = true := decide_eq_true (by omega)
                        have hbs := refBest_any A9 es2.length c9 es2 (some ⟨bS, oS, none⟩) same.length c1 same A2 ps.length c2 ps AC cl.length cC cl E (by omega) (by omega) hv rfl rfl hE.len rfl HCO.out HFi.out.p cl.length [] (by simp) (fun i hi => by simp at hi) AE cE wr (hr9.ext hxjc) (h17.ext hxc) (h26.ext hxjc) hCr hEx
                        simp only [List.length_nil, Int.natCast_zero] at hbs
                        go_wp2_with (go_at_call 41; refine hbs.mono ?_; rintro e w5 ⟨AF, cF, b, rfl, hb, hFr, hx7⟩)
                        have HN := Lib.hid (HST.out _ (by rw [if_neg hbig, if_pos hone]; exact ⟨b, hb, rfl⟩))
                        clear hb hch
                        go_roundg (same.length - (cc + 1))
                        case measure => exact Nat.lt_of_lt_of_le (Nat.sub_lt_sub_left hlt (Nat.lt_succ_self cc)) hgg
                        case rel => exact ⟨cc + 1, AF, cF, _, Nat.le_refl _, by omega, by go_num, rfl, HN, hFr, Ext.trans hxjc hx7⟩
                      · have hd1 : decide ((1 : Int) < (cl.length : Nat)) = false := decide_eq_false (by omega)
                        have HN := Lib.hid (HST.out E (by rw [if_neg hbig, if_neg hone]))
                        clear hch
                        go_wp2
                        go_roundg (same.length - (cc + 1))
                        case measure => exact Nat.lt_of_lt_of_le (Nat.sub_lt_sub_left hlt (Nat.lt_succ_self cc)) hgg
                        case rel => exact ⟨cc + 1, AE, cE, E, Nat.le_refl _, by omega, by go_num, rfl, HN, hEx, hxjc⟩
              · obtain rfl : cc = same.length := by omega
                have hfin := hch.out
                rw [← hes2.out] at hfin
                have HFN := Lib.hid hfin
                have hxf := Ext.trans hx6 hxj
                clear hfin hch
                go_wp2
                exact bodyPost_ret (v := .tuple #[.slice AE same.length cE, .int .i64 0]) (by simp [results, Try.results13, go_sem]) rfl ⟨_, _, rfl, hxf, rfl, ms, AE, cE, E, HMO.out, HFN.out, rfl, hE⟩

end Go.Proofs.Ytiapdpbcnbgdmaa

set_option linter.unusedVariables false
set_option linter.unusedSimpArgs false
namespace Go.Proofs.Ytiapdpbcnbgdmaa
open Go.RowKit

theorem rints_nil (w : World) (c : Nat) : RInts w none 0 [] := ⟨rfl, by omega, fun h => absurd h (Nat.lt_irrefl _)⟩
def CluP (es : List E3) (same : List Int) (ps : List (Int × Int)) (n : Nat) (k : Int) (ent : List Int) : Prop :=
  if goodB es same ps = true then k = 0 ∧ n = same.length ∧ ClusterP es same ps ent else k = 1 ∧ n = 0 ∧ ent = []
def RefP (es : List E3) (same : List Int) (ps : List (Int × Int)) (n : Nat) (k : Int) (ent : List Int) : Prop :=
  if goodB es same ps = true then k = 0 ∧ n = same.length ∧ ∃ ms, MarksOf es same ms ∧ RChain (es.filter (keptE ms)) ps same ms same.length same.length ent else k = 1 ∧ n = 0 ∧ ent = []
theorem clu_ref {es : List E3} {same : List Int} {ps : List (Int × Int)} {n n' : Nat} {k k' : Int} {a b : List Int} (h : CluP es same ps n k a) (h' : RefP es same ps n' k' b) : n = n' ∧ k = k' ∧ a = b := by
  unfold CluP at h
  unfold RefP at h'
  split at h
  · rename_i hg
    rw [if_pos hg] at h'
    obtain ⟨h1, h2, h3⟩ := h
    obtain ⟨k1, k2, ms, hm, hr⟩ := h'
    exact ⟨by omega, by omega, ref_cluster hg hm h3 hr⟩
  · rename_i hg
    rw [if_neg hg] at h'
    obtain ⟨h1, h2, h3⟩ := h
    obtain ⟨k1, k2, k3⟩ := h'
    exact ⟨by omega, by omega, by rw [h3, k3]⟩
theorem cluster12 (A : Option Addr) (n c : Nat) (es : List E3) (A1 : Option Addr) (m c1 : Nat) (same : List Int) (A2 : Option Addr) (q c2 : Nat) (ps : List (Int × Int)) (w : World) (h : REdges w A n es) (h1 : RInts w A1 m same) (h2 : RPairs w A2 q ps) (hm : m ≤ 40) (hn : n ≤ 80) :
    Calls Try.prog 12 #[.slice A n c, .slice A1 m c1, .slice A2 q c2] w fun e w' => ∃ A' n' c' k ent, e = .returned (.tuple #[.slice A' n' c', .int .i64 k]) ∧ RInts w' A' n' ent ∧ CluP es same ps n' k ent ∧ Ext w w' := by
  refine (cluster_any A n c es A1 m c1 same A2 q c2 ps w h h1 h2 hm hn).mono ?_
  rintro e w' ⟨v, k, rfl, hx, hp⟩
  unfold CluP
  split at hp
  · rename_i hg
    obtain ⟨rfl, ent, hc, hrow⟩ := hp
    obtain ⟨A', c', rfl, -⟩ := own_slice hrow
    refine ⟨A', m, c', 0, ent, rfl, own_rints hrow (by omega), ?_, hx⟩
    rw [if_pos hg]
    exact ⟨rfl, h1.len.symm, hc⟩
  · rename_i hg
    obtain ⟨rfl, rfl⟩ := hp
    refine ⟨none, 0, 0, 1, [], rfl, rints_nil _ 0, ?_, hx⟩
    rw [if_neg hg]
    exact ⟨rfl, rfl, rfl⟩
theorem cluster13 (A : Option Addr) (n c : Nat) (es : List E3) (A1 : Option Addr) (m c1 : Nat) (same : List Int) (A2 : Option Addr) (q c2 : Nat) (ps : List (Int × Int)) (w : World) (h : REdges w A n es) (h1 : RInts w A1 m same) (h2 : RPairs w A2 q ps) (hm : m ≤ 40) (hn : n ≤ 80) :
    Calls Try.prog 13 #[.slice A n c, .slice A1 m c1, .slice A2 q c2] w fun e w' => ∃ A' n' c' k ent, e = .returned (.tuple #[.slice A' n' c', .int .i64 k]) ∧ RInts w' A' n' ent ∧ RefP es same ps n' k ent ∧ Ext w w' := by
  refine (refCluster_any A n c es A1 m c1 same A2 q c2 ps w h h1 h2 hm hn).mono ?_
  rintro e w' ⟨v, k, rfl, hx, hp⟩
  have hl := h1.len
  subst hl
  unfold RefP
  split at hp
  · rename_i hg
    obtain ⟨rfl, ms, A', c', ent, hm, hr, rfl, hR⟩ := hp
    refine ⟨A', same.length, c', 0, ent, rfl, hR, ?_, hx⟩
    rw [if_pos hg]
    exact ⟨rfl, rfl, ms, hm, hr⟩
  · rename_i hg
    obtain ⟨rfl, rfl⟩ := hp
    refine ⟨none, 0, 0, 1, [], rfl, rints_nil _ 0, ?_, hx⟩
    rw [if_neg hg]
    exact ⟨rfl, rfl, rfl⟩
def CompP (es : List E3) (same : List Int) (gs : List (List Int)) : Prop :=
  if (validB same && linkedB same.length es) = true then ∃ ms, MarksOf es same ms ∧ gs = (comps ms same.length).map (recs ms same.length) else gs = []
theorem comp_uniq {es : List E3} {same : List Int} {gs gs' : List (List Int)} (h : CompP es same gs) (h' : CompP es same gs') : gs = gs' ∧ gs.length ≤ same.length ∧ ∀ g ∈ gs, g.length ≤ same.length := by
  unfold CompP at h h'
  split at h
  · rename_i hg
    rw [if_pos hg] at h'
    obtain ⟨ms, hm, rfl⟩ := h
    obtain ⟨ms', hm', rfl⟩ := h'
    have K : MarkOk same same.length (Adj (wTo es same es.length)) ms := hm
    have K' : MarkOk same same.length (Adj (wTo es same es.length)) ms' := hm'
    obtain rfl := K.uniq K' Adj.symm'
    refine ⟨rfl, by rw [List.length_map]; exact len_ixs _ _, fun g hg => ?_⟩
    obtain ⟨c, _, rfl⟩ := List.mem_map.1 hg
    exact len_ixs _ _
  · rename_i hg
    rw [if_neg hg] at h'
    subst h h'
    exact ⟨rfl, by simp, fun g hg => by simp at hg⟩
theorem comps20 (A : Option Addr) (n c : Nat) (es : List E3) (A1 : Option Addr) (m c1 : Nat) (same : List Int) (w : World) (h : REdges w A n es) (h1 : RInts w A1 m same) :
    Calls Try.prog 20 #[.slice A n c, .slice A1 m c1] w fun e w' => ∃ v vs gs, e = .returned v ∧ Fam w' w.heap.size v vs gs ∧ CompP es same gs ∧ Ext w w' := by
  refine (componentsF_any A n c es A1 m c1 same w h h1).mono ?_
  rintro e w' ⟨v, rfl, hx, hp⟩
  have hl := h1.len
  subst hl
  unfold CompP
  split at hp
  · rename_i hg
    obtain ⟨vs, ms, hm, hF⟩ := hp
    have K : MarkOk same same.length (Adj (wTo es same es.length)) ms := hm
    rw [Bool.and_eq_true] at hg
    rw [groups_eq K Adj.symm' (validB_good hg.1) rfl] at hF
    refine ⟨v, vs, _, rfl, hF, ?_, hx⟩
    rw [if_pos (by rw [hg.1, hg.2]; rfl)]
    exact ⟨ms, hm, rfl⟩
  · rename_i hg
    subst hp
    refine ⟨_, [], [], rfl, Fam.nil _ _, ?_, hx⟩
    rw [if_neg hg]
theorem comps21 (A : Option Addr) (n c : Nat) (es : List E3) (A1 : Option Addr) (m c1 : Nat) (same : List Int) (w : World) (h : REdges w A n es) (h1 : RInts w A1 m same) :
    Calls Try.prog 21 #[.slice A n c, .slice A1 m c1] w fun e w' => ∃ v vs gs, e = .returned v ∧ Fam w' w.heap.size v vs gs ∧ CompP es same gs ∧ Ext w w' := by
  refine (refComps_any A n c es A1 m c1 same w h h1).mono ?_
  rintro e w' ⟨v, rfl, hx, hp⟩
  have hl := h1.len
  subst hl
  unfold CompP
  split at hp
  · rename_i hg
    obtain ⟨vs, ms, hm, hF⟩ := hp
    refine ⟨v, vs, _, rfl, hF, ?_, hx⟩
    rw [if_pos hg]
    exact ⟨ms, hm, rfl⟩
  · rename_i hg
    subst hp
    refine ⟨_, [], [], rfl, Fam.nil _ _, ?_, hx⟩
    rw [if_neg hg]
set_option maxRecDepth 100000 in
set_option maxHeartbeats 4000000 in
theorem lawMatch_any (A : Option Addr) (n c : Nat) (es : List E3) (A1 : Option Addr) (m c1 : Nat) (same : List Int) (A2 : Option Addr) (q c2 : Nat) (ps : List (Int × Int)) (A3 : Option Addr) (m3 c3 : Nat) (entity : List Int) (w : World)
    (h : REdges w A n es) (h1 : RInts w A1 m same) (h2 : RPairs w A2 q ps) (h3 : RInts w A3 m3 entity) :
    Calls Try.prog 3 #[.slice A n c, .slice A1 m c1, .slice A2 q c2, .slice A3 m3 c3] w fun e w' => e = .returned (.bool true) ∧ Ext w w' := by
  have hf := fun W => few_any A n c A1 m c1 A2 q c2 12 W h.big h1.big h2.big
  have hh := head_any
  have hb3 := h3.big
  by_cases hfew : (m : Int) ≤ 12 ∧ n ≤ 80 ∧ q ≤ 40
  · simp only [decide_eq_true hfew] at hf
    obtain ⟨f1, f2, f3⟩ := hfew
    by_cases h20 : m3 ≤ 20
    · have hq12 := fun W (hW : Ext w W) => cluster12 A n c es A1 m c1 same A2 q c2 ps W (h.ext hW) (h1.ext hW) (h2.ext hW) (by omega) (by omega)
      have hq13 := fun W (hW : Ext w W) => cluster13 A n c es A1 m c1 same A2 q c2 ps W (h.ext hW) (h1.ext hW) (h2.ext hW) (by omega) (by omega)
      have hq15 := fun W (hW : Ext w W) => cost_any A n c es A3 m3 c3 entity W (h.ext hW) (h3.ext hW)
      have hq16 := fun W (hW : Ext w W) => refCost_any A n c es A3 m3 c3 entity W (h.ext hW) (h3.ext hW)
      have hq17 := fun W (hW : Ext w W) => allowed_any A1 m c1 same A2 q c2 ps A3 m3 c3 entity W (h1.ext hW) (h2.ext hW) (h3.ext hW)
      have hq18 := fun W (hW : Ext w W) => refAllowed_any A1 m c1 same A2 q c2 ps A3 m3 c3 entity W (h1.ext hW) (h2.ext hW) (h3.ext hW)
      have hq20 := fun W (hW : Ext w W) => comps20 A n c es A1 m c1 same W (h.ext hW) (h1.ext hW)
      have hq21 := fun W (hW : Ext w W) => comps21 A n c es A1 m c1 same W (h.ext hW) (h1.ext hW)
      obtain ⟨cst, hcst⟩ : ∃ x, costTo es entity n = x := ⟨_, rfl⟩
      obtain ⟨alw, halw⟩ : ∃ x, allowedB same ps entity = x := ⟨_, rfl⟩
      rw [hcst] at hq15 hq16
      rw [halw] at hq17 hq18
      have hsl := Lib.hid h1.len
      clear hcst halw
      go_enter Try.func3, Try.ntmps3
      go_upto_region 6 with (first
        | (go_at_call 10; refine (hh _).mono ?_; rintro e w1 ⟨rfl, hx1⟩)
        | (go_at_call 11; refine (hf _).mono ?_; rintro e w2 ⟨rfl, rfl⟩)
        | (go_at_call 12; refine (hq12 _ hx1).mono ?_; rintro e w2 ⟨A5, n5, c5, k5, e5, rfl, hr5, hp5, hx2⟩; have hx12 := Ext.trans hx1 hx2)
        | (go_at_call 13; refine (hq13 _ hx12).mono ?_; rintro e w3 ⟨A6, n6, c6, k6, e6, rfl, hr6, hp6, hx3⟩))
      obtain ⟨rfl, rfl, rfl⟩ := clu_ref hp5 hp6
      have hx13 := Ext.trans hx12 hx3
      have hints := ints_any A5 n5 c5 e5 A6 n5 c6 e5 w3 (hr5.ext hx3) hr6
      rw [decide_eq_true (rfl : e5 = e5)] at hints
      clear hp5 hp6 hr5 hr6
      go_wp2_with (first
        | (go_at_call 14; refine hints.mono ?_; rintro e w4 ⟨rfl, hx4⟩; have hx14 := Ext.trans hx13 hx4)
        | (go_at_call 15; refine (hq15 _ hx14).mono ?_; rintro e w5 ⟨rfl, hx5⟩; have hx15 := Ext.trans hx14 hx5)
        | (go_at_call 16; refine (hq16 _ hx15).mono ?_; rintro e w6 ⟨rfl, hx6⟩; have hx16 := Ext.trans hx15 hx6)
        | (go_at_call 17; refine (hq17 _ hx16).mono ?_; rintro e w7 ⟨rfl, hx7⟩; have hx17 := Ext.trans hx16 hx7)
        | (go_at_call 18; refine (hq18 _ hx17).mono ?_; rintro e w8 ⟨rfl, hx8⟩; have hx18 := Ext.trans hx17 hx8)
        | (go_at_call 20; refine (hq20 _ hx18).mono ?_; rintro e w9 ⟨v9, vs9, gs9, rfl, hF9, hp9, hx9⟩; have hx19 := Ext.trans hx18 hx9)
        | (go_at_call 21
           refine (hq21 _ hx19).mono ?_
           rintro e w10 ⟨v10, vs10, gs10, rfl, hF10, hp10, hx10⟩
           have hx110 := Ext.trans hx19 hx10
           obtain ⟨rfl, hg1, hg2⟩ := comp_uniq hp9 hp10
           rw [hsl.out] at hg1 hg2
           have hls := lists_any (hF9.ext hx10) hF10 (by omega) (fun g hg => Nat.le_trans (hg2 g hg) (by omega))
           clear hp9 hp10 hF9 hF10 hg1 hg2)
        | (go_at_call 19; refine hls.mono ?_; rintro e w11 ⟨rfl, hx11⟩))
      go_ret
      exact ⟨rfl, Ext.trans hx110 hx11⟩
    · go_enter Try.func3, Try.ntmps3
      go_wp2_with (first
        | (go_at_call 10; refine (hh _).mono ?_; rintro e w1 ⟨rfl, hx1⟩)
        | (go_at_call 11; refine (hf _).mono ?_; rintro e w2 ⟨rfl, rfl⟩))
      go_ret
      exact ⟨rfl, hx1⟩
  · simp only [decide_eq_false hfew] at hf
    go_enter Try.func3, Try.ntmps3
    go_wp2_with (first
      | (go_at_call 10; refine (hh _).mono ?_; rintro e w1 ⟨rfl, hx1⟩)
      | (go_at_call 11; refine (hf _).mono ?_; rintro e w2 ⟨rfl, rfl⟩))
    go_ret
    exact ⟨rfl, hx1⟩

end Go.Proofs.Ytiapdpbcnbgdmaa

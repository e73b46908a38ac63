import Derived.Test.YtiapdpbcnbgdmaaCu
import Derived.Test.YtiapdpbcnbgdmaaCw
set_option linter.unusedVariables false
set_option linter.unusedSimpArgs false
namespace Go.Proofs.Ytiapdpbcnbgdmaa
open Go.RowKit

/-! What the solvers' answers are: allowed, and how much they keep together. -/
structure SolOk (AP : Int × Int → Option Bool) (cl : List Int) (f : Int → Int) : Prop where
  inn : ∀ c ∈ cl, f c ∈ cl
  le : ∀ c ∈ cl, f c ≤ c
  idem : ∀ c ∈ cl, f (f c) = f c
  ap : ∀ a ∈ cl, ∀ b ∈ cl, a < b → AP (a, b) ≠ none → f a ≠ f b
def kept (q : Nat) (W : Int × Int → Option Int) (cl : List Int) (f : Int → Int) : Int := gsum q fun p => if p.1 ∈ cl ∧ p.2 ∈ cl ∧ f p.1 = f p.2 then (W p).getD 0 else 0
theorem kept_congr {q : Nat} {W : Int × Int → Option Int} {cl : List Int} {f g : Int → Int} (h : ∀ c ∈ cl, ∀ d ∈ cl, (f c = f d ↔ g c = g d)) : kept q W cl f = kept q W cl g := by
  refine sum_congr fun p _ => ?_
  by_cases h1 : p.1 ∈ cl
  · by_cases h2 : p.2 ∈ cl
    · simp only [h1, h2, true_and, h p.1 h1 p.2 h2]
    · simp only [h2, false_and, and_false]
  · simp only [h1, false_and]
theorem kept_id {q : Nat} {W : Int × Int → Option Int} {cl : List Int} {f : Int → Int} (hW : ∀ p, W p ≠ none → p.1 < p.2) (h : ∀ c ∈ cl, ∀ d ∈ cl, f c = f d → c = d) : kept q W cl f = 0 := by
  unfold kept gsum
  rw [sum_congr (g := fun _ => 0) (fun p _ => ?_), sum_zero]
  by_cases hc : p.1 ∈ cl ∧ p.2 ∈ cl ∧ f p.1 = f p.2
  · rw [if_pos hc]
    have e := h _ hc.1 _ hc.2.1 hc.2.2
    cases hw : W p with
    | none => rfl
    | some x => have := hW p (by rw [hw]; simp); omega
  · rw [if_neg hc]
def prs (cl : List Int) : Nat → List (Int × Int)
  | 0 => []
  | i + 1 => prs cl i ++ (List.range i).map fun k => (nth cl k, nth cl i)
theorem mem_prs {cl : List Int} {p : Int × Int} : ∀ n, p ∈ prs cl n ↔ ∃ k i, k < i ∧ i < n ∧ p = (nth cl k, nth cl i)
  | 0 => by simp [prs]
  | n + 1 => by
    rw [prs, List.mem_append, mem_prs n, List.mem_map]
    constructor
    · rintro (⟨k, i, h1, h2, h3⟩ | ⟨k, h1, h2⟩)
      · exact ⟨k, i, h1, by omega, h3⟩
      · exact ⟨k, n, List.mem_range.1 h1, by omega, h2.symm⟩
    · rintro ⟨k, i, h1, h2, h3⟩
      rcases Nat.lt_or_eq_of_le (Nat.le_of_lt_succ h2) with h | rfl
      · exact .inl ⟨k, i, h1, h, h3⟩
      · exact .inr ⟨k, List.mem_range.2 h1, h3.symm⟩
theorem nodup_prs {cl : List Int} (hn : cl.Nodup) : ∀ n, n ≤ cl.length → (prs cl n).Nodup
  | 0, _ => List.nodup_nil
  | n + 1, h => by
    rw [prs, List.nodup_append]
    refine ⟨nodup_prs hn n (by omega), ?_, ?_⟩
    · rw [List.nodup_iff_pairwise_ne, List.pairwise_map]
      refine (List.nodup_iff_pairwise_ne.1 (List.nodup_range (n := n))).imp_of_mem ?_
      intro a b ha hb hab e
      have := List.mem_range.1 ha
      have := List.mem_range.1 hb
      exact hab (nth_inj hn (by omega) (by omega) (congrArg Prod.fst e))
    · intro a ha b hb e
      subst e
      obtain ⟨k, i, h1, h2, rfl⟩ := (mem_prs n).1 ha
      obtain ⟨k', h3, h4⟩ := List.mem_map.1 hb
      have := nth_inj hn (show n < cl.length by omega) (show i < cl.length by omega) (congrArg Prod.snd h4)
      omega
theorem keptIn_sum {W : Int × Int → Option Int} {cl x : List Int} {i : Nat} : ∀ k, keptIn W cl x i k = ((List.range k).map fun k => if nth x i = nth x k then (W (nth cl k, nth cl i)).getD 0 else 0).sum
  | 0 => rfl
  | k + 1 => by
    rw [keptIn, keptIn_sum k, List.range_succ, List.map_append, List.sum_append]
    simp only [List.map_cons, List.map_nil, List.sum_cons, List.sum_nil, Int.add_zero]
    split <;> omega
theorem keptTo_eq {q : Nat} {W : Int × Int → Option Int} {cl x : List Int} {f : Int → Int} (hp : cl.Pairwise (· < ·)) (hr : ∀ c ∈ cl, 0 ≤ c ∧ c < q) (hW : ∀ p, W p ≠ none → p.1 < p.2) (hf : ∀ i, i < cl.length → f (nth cl i) = nth x i) : keptTo W cl x cl.length = kept q W cl f := by
  have hn : cl.Nodup := by rw [List.nodup_iff_pairwise_ne]; exact hp.imp fun h => by omega
  have key : ∀ n, n ≤ cl.length → keptTo W cl x n = ((prs cl n).map fun p => if p.1 ∈ cl ∧ p.2 ∈ cl ∧ f p.1 = f p.2 then (W p).getD 0 else 0).sum := by
    intro n
    induction n with
    | zero => intro _; rfl
    | succ n ih =>
      intro h
      rw [keptTo, ih (by omega), keptIn_sum, prs, List.map_append, List.sum_append, List.map_map]
      congr 1
      refine sum_congr fun k hk => ?_
      have hk := List.mem_range.1 hk
      simp only [Function.comp]
      have e1 := hf n (by omega)
      have e2 := hf k (by omega)
      have m1 := nth_mem (show n < cl.length by omega)
      have m2 := nth_mem (show k < cl.length by omega)
      rw [e1, e2]
      simp only [m1, m2, true_and]
      by_cases e : nth x n = nth x k
      · rw [if_pos e, if_pos e.symm]
      · rw [if_neg e, if_neg (Ne.symm e)]
  rw [key _ (Nat.le_refl _)]
  refine gsum_list (nodup_prs hn _ (Nat.le_refl _)) fun p hp' => ?_
  by_cases hc : p.1 ∈ cl ∧ p.2 ∈ cl ∧ f p.1 = f p.2
  · rw [if_pos hc] at hp'
    have hlt : p.1 < p.2 := hW p (fun e => by rw [e] at hp'; exact hp' rfl)
    obtain ⟨k, hk, e1⟩ := nth_of_mem hc.1
    obtain ⟨i, hi, e2⟩ := nth_of_mem hc.2.1
    refine ⟨(mem_prs _).2 ⟨k, i, ?_, hi, Prod.ext e1.symm e2.symm⟩, mem_grid.2 ?_⟩
    · rcases Nat.lt_trichotomy k i with h | h | h
      · exact h
      · subst h; omega
      · have := List.pairwise_iff_getElem.1 hp i k hi hk h
        simp only [nth, List.getD_eq_getElem?_getD, List.getElem?_eq_getElem hk, List.getElem?_eq_getElem hi, Option.getD_some] at e1 e2
        omega
    · have h1 := hr _ hc.1
      have h2 := hr _ hc.2.1
      exact ⟨h1.1, h1.2, h2.1, h2.2⟩
  · rw [if_neg hc] at hp'; exact absurd rfl hp'
theorem gsum_add {q : Nat} (f g : Int × Int → Int) : gsum q (fun p => f p + g p) = gsum q f + gsum q g := sum_add f g _
theorem ordP_eq {a b x y : Int} (hxy : x < y) : ordP a b = (x, y) ↔ (a = x ∧ b = y) ∨ (a = y ∧ b = x) := by
  unfold ordP
  constructor
  · intro h
    have h1 := congrArg Prod.fst h
    have h2 := congrArg Prod.snd h
    simp only at h1 h2
    omega
  · rintro (⟨rfl, rfl⟩ | ⟨rfl, rfl⟩) <;> (apply Prod.ext <;> simp only <;> omega)
section
variable {q : Nat} {WT : Int × Int → Option Int} {AP : Int × Int → Option Bool} {cl : List Int}
theorem kept_step {hd : Int → Int} {p : Int × Int} (hlt : p.1 < p.2) : kept q WT cl (fun c => subst p.1 p.2 (hd c)) = kept q WT cl hd + WG q WT cl hd p := by
  unfold kept WG
  rw [← gsum_add]
  refine sum_congr fun p' _ => ?_
  by_cases h1 : p'.1 ∈ cl
  · by_cases h2 : p'.2 ∈ cl
    · simp only [h1, h2, true_and]
      have ho := ordP_eq (a := hd p'.1) (b := hd p'.2) hlt
      have ep : ((p.1, p.2) : Int × Int) = p := rfl
      rw [ep] at ho
      by_cases e : hd p'.1 = hd p'.2
      · have hno : ¬ ordP (hd p'.1) (hd p'.2) = p := fun h => by have := ho.1 h; omega
        rw [if_pos (by rw [e]), if_pos e, if_neg hno]; omega
      · by_cases hp : ordP (hd p'.1) (hd p'.2) = p
        · have h3 := ho.1 hp
          have e1 : subst p.1 p.2 (hd p'.1) = subst p.1 p.2 (hd p'.2) := by
            unfold subst
            rcases h3 with ⟨a1, a2⟩ | ⟨a1, a2⟩ <;> rw [a1, a2] <;> split <;> split <;> omega
          rw [if_pos e1, if_neg e, if_pos hp]; omega
        · have e1 : ¬ subst p.1 p.2 (hd p'.1) = subst p.1 p.2 (hd p'.2) := by
            intro h
            apply hp
            apply ho.2
            unfold subst at h
            split at h <;> split at h <;> omega
          rw [if_neg e1, if_neg e, if_neg hp]; omega
    · simp only [h2, false_and, and_false, if_false]; omega
  · simp only [h1, false_and, if_false]; omega
theorem SolOk.step {hd : Int → Int} {p : Int × Int} (S : SolOk AP cl hd) (hC : Cand AP cl hd p) : SolOk AP cl (fun c => subst p.1 p.2 (hd c)) := by
  have hlt := hC.lt
  have h1 := hC.h1
  have h2 := hC.h2
  refine ⟨fun c hc => ?_, fun c hc => ?_, fun c hc => ?_, fun a ha b hb hab hap => ?_⟩
  · show subst p.1 p.2 (hd c) ∈ cl
    unfold subst
    split
    · exact hC.in1
    · exact S.inn c hc
  · show subst p.1 p.2 (hd c) ≤ c
    have := S.le c hc
    unfold subst
    split <;> omega
  · show subst p.1 p.2 (hd (subst p.1 p.2 (hd c))) = subst p.1 p.2 (hd c)
    have := S.idem c hc
    by_cases e : hd c = p.2
    · rw [show subst p.1 p.2 (hd c) = p.1 by simp [subst, e], h1]
      unfold subst; split <;> omega
    · rw [show subst p.1 p.2 (hd c) = hd c by simp [subst, e], this]
      simp [subst, e]
  · show subst p.1 p.2 (hd a) ≠ subst p.1 p.2 (hd b)
    have hne := S.ap a ha b hb hab hap
    intro e
    refine hC.ap ⟨(a, b), hap, ?_⟩
    have ho := ordP_eq (a := hd a) (b := hd b) hlt
    refine ho.2 ?_
    unfold subst at e
    split at e <;> split at e <;> omega
theorem SolOk.start (hA : ∀ p, AP p ≠ none → p.1 < p.2) : SolOk AP cl id :=
  ⟨fun c hc => hc, fun c _ => Int.le_refl _, fun c _ => rfl, fun a _ b _ hab _ e => by simp only [id] at e; omega⟩
theorem GRun.sol {hd hd' : Int → Int} (h : GRun q WT AP cl hd hd') : SolOk AP cl hd → SolOk AP cl hd' ∧ kept q WT cl hd ≤ kept q WT cl hd' := by
  induction h with
  | stop _ => intro S; exact ⟨S, Int.le_refl _⟩
  | step hb _ ih =>
    intro S
    obtain ⟨h1, h2⟩ := ih (S.step hb.cand)
    rw [kept_step hb.cand.lt] at h2
    have := hb.pos
    exact ⟨h1, by omega⟩
theorem clashB_false {cl hs : List Int} {i : Nat} (h : clashB AP cl hs i = false) {k : Nat} (hk : k < i) (e : nth hs k = nth hs i) : (AP (apK cl k i)).getD false = false := by
  unfold clashB at h
  rw [List.any_eq_false] at h
  have := h k (List.mem_range.2 hk)
  unfold clashK at this
  simpa [e] using this
theorem lt_of_nth {cl : List Int} (hp : cl.Pairwise (· < ·)) {k i : Nat} (hk : k < cl.length) (hi : i < cl.length) : nth cl k < nth cl i ↔ k < i := by
  have e1 : nth cl k = cl[k] := by simp [nth, List.getD_eq_getElem?_getD, List.getElem?_eq_getElem hk]
  have e2 : nth cl i = cl[i] := by simp [nth, List.getD_eq_getElem?_getD, List.getElem?_eq_getElem hi]
  rw [e1, e2]
  constructor
  · intro h
    rcases Nat.lt_trichotomy k i with h' | h' | h'
    · exact h'
    · subst h'; omega
    · have := List.pairwise_iff_getElem.1 hp i k hi hk h'; omega
  · intro h; exact List.pairwise_iff_getElem.1 hp k i hk hi h
/-- a row of heads of enum, as a function -/
theorem enum_sol {x : List Int} {f : Int → Int} (hp : cl.Pairwise (· < ·)) (hAv : ∀ p b, AP p = some b → b = true) (hx : x ∈ enum AP cl cl.length []) (hf : ∀ i, i < cl.length → f (nth cl i) = nth x i) : SolOk AP cl f := by
  have hn : cl.Nodup := by rw [List.nodup_iff_pairwise_ne]; exact hp.imp fun h => by omega
  obtain ⟨hl, _, hE⟩ := (mem_enum _ _ _).1 hx
  have hl : x.length = cl.length := by simpa using hl
  have key : ∀ i, i < cl.length → ∃ k, k ≤ i ∧ k < cl.length ∧ f (nth cl i) = nth cl k ∧ f (nth cl k) = nth cl k := fun i hi => by
    obtain ⟨⟨k, h1, h2, h3⟩, _⟩ := hE i (Nat.zero_le _) (by omega)
    refine ⟨k, h1, by omega, by rw [hf i hi, h2], ?_⟩
    rw [hf k (by omega)]
    rcases Nat.lt_or_eq_of_le h1 with h | rfl
    · exact h3 h
    · exact h2
  refine ⟨fun c hc => ?_, fun c hc => ?_, fun c hc => ?_, fun a ha b hb hab hap e => ?_⟩
  · obtain ⟨i, hi, rfl⟩ := nth_of_mem hc
    obtain ⟨k, h1, h2, h3, h4⟩ := key i hi
    rw [h3]; exact nth_mem h2
  · obtain ⟨i, hi, rfl⟩ := nth_of_mem hc
    obtain ⟨k, h1, h2, h3, h4⟩ := key i hi
    rw [h3]
    rcases Nat.lt_or_eq_of_le h1 with h | rfl
    · exact Int.le_of_lt ((lt_of_nth hp h2 hi).2 h)
    · exact Int.le_refl _
  · obtain ⟨i, hi, rfl⟩ := nth_of_mem hc
    obtain ⟨k, h1, h2, h3, h4⟩ := key i hi
    rw [h3, h4]
  · obtain ⟨i, hi, rfl⟩ := nth_of_mem ha
    obtain ⟨k, hk, rfl⟩ := nth_of_mem hb
    have hik := (lt_of_nth hp hi hk).1 hab
    rw [hf i hi, hf k hk] at e
    have hc := clashB_false (hE k (Nat.zero_le _) (by omega)).2 hik e
    have ek : apK cl i k = (nth cl i, nth cl k) := by unfold apK; apply Prod.ext <;> simp only <;> omega
    rw [ek] at hc
    cases hb : AP (nth cl i, nth cl k) with
    | none => exact hap hb
    | some b => rw [hb, hAv _ _ hb] at hc; simp at hc
theorem Solved.sol {hs : List Int} {f : Int → Int} (h : Solved q WT AP cl hs) (hp : cl.Pairwise (· < ·)) (hr : ∀ c ∈ cl, 0 ≤ c ∧ c < q) (hW : ∀ p, WT p ≠ none → p.1 < p.2) (hA : ∀ p, AP p ≠ none → p.1 < p.2) (hAv : ∀ p b, AP p = some b → b = true) (hf : ∀ i, i < cl.length → f (nth cl i) = nth hs i) :
    SolOk AP cl f ∧ 0 ≤ kept q WT cl f := by
  have hn : cl.Nodup := by rw [List.nodup_iff_pairwise_ne]; exact hp.imp fun h => by omega
  rcases h with ⟨_, l, h⟩ | ⟨_, g, hg, rfl⟩
  · have hown := own_enum (AP := AP) hn
    obtain ⟨b, h1, h2, h3⟩ := bestOf_inv (W := WT) (cl := cl) (n := cl.length) (enum AP cl cl.length []) (fun e => by rw [e] at hown; simp at hown)
    rw [h1] at h
    obtain rfl : b = hs := congrArg Prod.fst (Option.some.inj h)
    refine ⟨enum_sol hp hAv h2 hf, ?_⟩
    have h4 := h3 _ hown
    rw [keptTo_eq hp hr hW hf, keptTo_eq (f := id) hp hr hW (fun i _ => rfl), kept_id (f := id) hW (fun c _ d _ e => e)] at h4
    exact h4
  · obtain ⟨h1, h2⟩ := hg.sol (SolOk.start hA)
    have hfg : ∀ c ∈ cl, f c = g c := fun c hc => by
      obtain ⟨i, hi, rfl⟩ := nth_of_mem hc
      rw [hf i hi]
      simp [nth, List.getD_eq_getElem?_getD, hi]
    rw [kept_id (f := id) hW (fun c _ d _ e => e), kept_congr (g := f) (fun c hc d hd => by rw [hfg c hc, hfg d hd])] at h2
    refine ⟨⟨fun c hc => ?_, fun c hc => ?_, fun c hc => ?_, fun a ha b hb => ?_⟩, h2⟩
    · rw [hfg c hc]; exact h1.inn c hc
    · rw [hfg c hc]; exact h1.le c hc
    · rw [hfg c hc, hfg _ (h1.inn c hc)]; exact h1.idem c hc
    · rw [hfg a ha, hfg b hb]; exact h1.ap a ha b hb
end

end Go.Proofs.Ytiapdpbcnbgdmaa

set_option linter.unusedVariables false
set_option linter.unusedSimpArgs false
namespace Go.Proofs.Ytiapdpbcnbgdmaa
open Go.RowKit

/-! Costs by what is kept together. -/
def gk (q : Nat) (W : Int × Int → Option Int) (f : Int → Int) : Int := gsum q fun p => if f p.1 = f p.2 then (W p).getD 0 else 0
def togTo (es : List E3) (same : List Int) (f : Int → Int) : Nat → Int
  | 0 => 0
  | k + 1 => togTo es same f k + (if f (nth same (eth es k).a.toNat) = f (nth same (eth es k).b.toNat) then (eth es k).w else 0)
def posTo (es : List E3) : Nat → Int
  | 0 => 0
  | k + 1 => posTo es k + max (eth es k).w 0
theorem cost_tog {es : List E3} {same xs : List Int} {m n : Nat} {f : Int → Int} (hl : xs.length = m) (hg : GoodE m es n) (hf : ∀ i, i < m → nth xs i = f (nth same i)) : ∀ k, k ≤ n → costTo es xs k = posTo es k - togTo es same f k ∧ 0 ≤ costTo es xs k ∧ costTo es xs k ≤ 1000000000 * (k : Int) := by
  intro k
  induction k with
  | zero => intro _; exact ⟨rfl, Int.le_refl _, Int.le_refl _⟩
  | succ k ih =>
    intro hk
    obtain ⟨h1, h2, h3⟩ := ih (by omega)
    obtain ⟨hr, hw1, hw2⟩ := hg.1 k (by omega)
    have hn := hg.2
    obtain ⟨a1, a2, a3, a4⟩ := hr
    have e1 := hf (eth es k).a.toNat (by omega)
    have e2 := hf (eth es k).b.toNat (by omega)
    rw [costTo, costStep, hl, if_pos ⟨a1, a2, a3, a4⟩, posTo, togTo, e1, e2]
    by_cases hab : f (nth same (eth es k).a.toNat) = f (nth same (eth es k).b.toNat)
    · rw [if_pos hab, if_pos hab]
      by_cases hw : (eth es k).w < 0
      · rw [if_pos hw, wrap64_id (by omega)]; omega
      · rw [if_neg hw]; omega
    · rw [if_neg hab, if_neg hab]
      by_cases hw : 0 < (eth es k).w
      · rw [if_pos hw, wrap64_id (by omega)]; omega
      · rw [if_neg hw]; omega
theorem gsum_at {q : Nat} {p0 : Int × Int} (h : p0 ∈ grid q) (x : Int) : (gsum q fun p => if p = p0 then x else 0) = x := by
  rw [← gsum_list (ks := [p0]) (by simp) (fun p hp => by
    by_cases e : p = p0
    · subst e; exact ⟨by simp, h⟩
    · simp only [e, if_false] at hp; exact absurd rfl hp)]
  simp
theorem tog_eq {es : List E3} {same : List Int} {m n : Nat} {f : Int → Int} (hv : ValidP same) (hl : same.length = m) (hg : GoodE m es n) : ∀ k, k ≤ n → togTo es same f k = togTo es same id k + gk m (wTo es same k) f := by
  intro k
  induction k with
  | zero =>
    intro _
    have : gk m (wTo es same 0) f = 0 := by
      unfold gk gsum
      rw [sum_congr (g := fun _ => 0) (fun p _ => by simp [wTo]), sum_zero]
    rw [this]; rfl
  | succ k ih =>
    intro hk
    have ih := ih (by omega)
    obtain ⟨h1, h2, h3, h4⟩ := (hg.1 k (by omega)).1
    have ka := same_cls hv hl h1 h2
    have kb := same_cls hv hl h3 h4
    rw [togTo, togTo, ih]
    by_cases e : nth same (eth es k).a.toNat = nth same (eth es k).b.toNat
    · rw [if_pos (show f _ = f _ by rw [e]), if_pos (show id (nth same (eth es k).a.toNat) = id (nth same (eth es k).b.toNat) from e)]
      have : gk m (wTo es same (k + 1)) f = gk m (wTo es same k) f := by
        refine sum_congr fun p _ => ?_
        have ew : wTo es same (k + 1) p = wTo es same k p := by rw [wTo, if_neg (fun h => h.1 e)]
        rw [ew]
      rw [this]; omega
    · rw [if_neg (c := id (nth same (eth es k).a.toNat) = id (nth same (eth es k).b.toNat)) (fun h => e h)]
      have hp0 : ((min (nth same (eth es k).a.toNat) (nth same (eth es k).b.toNat), max (nth same (eth es k).a.toNat) (nth same (eth es k).b.toNat)) : Int × Int) ∈ grid m := by
        rw [mem_grid]
        have := ka.1; have := ka.2.1; have := kb.1; have := kb.2.1
        simp only
        omega
      have : gk m (wTo es same (k + 1)) f = gk m (wTo es same k) f + (if f (nth same (eth es k).a.toNat) = f (nth same (eth es k).b.toNat) then (eth es k).w else 0) := by
        rw [← gsum_at hp0 (if f (nth same (eth es k).a.toNat) = f (nth same (eth es k).b.toNat) then (eth es k).w else 0)]
        unfold gk
        rw [← gsum_add]
        refine sum_congr fun p _ => ?_
        by_cases ep : p = (min (nth same (eth es k).a.toNat) (nth same (eth es k).b.toNat), max (nth same (eth es k).a.toNat) (nth same (eth es k).b.toNat))
        · have ew : wTo es same (k + 1) p = some ((wTo es same k p).getD 0 + (eth es k).w) := by rw [wTo, if_pos ⟨e, ep⟩]
          rw [ew, if_pos ep]
          have hff : (f p.1 = f p.2) ↔ f (nth same (eth es k).a.toNat) = f (nth same (eth es k).b.toNat) := by
            rw [ep]
            simp only
            rcases Int.le_total (nth same (eth es k).a.toNat) (nth same (eth es k).b.toNat) with h | h
            · rw [Int.min_eq_left h, Int.max_eq_right h]
            · rw [Int.min_eq_right h, Int.max_eq_left h]; exact eq_comm
          by_cases hh : f (nth same (eth es k).a.toNat) = f (nth same (eth es k).b.toNat)
          · rw [if_pos (hff.2 hh), if_pos (hff.2 hh), if_pos hh]; simp
          · rw [if_neg (fun h => hh (hff.1 h)), if_neg (fun h => hh (hff.1 h)), if_neg hh]; rfl
        · have ew : wTo es same (k + 1) p = wTo es same k p := by rw [wTo, if_neg (fun h => ep h.2)]
          rw [ew, if_neg ep]; omega
      rw [this]; omega
/-- The cost falls as what is kept together grows. -/
theorem cost_gk {es : List E3} {same xs : List Int} {m n : Nat} {f : Int → Int} (hv : ValidP same) (hl : same.length = m) (hx : xs.length = m) (hg : GoodE m es n) (hf : ∀ i, i < m → nth xs i = f (nth same i)) : costTo es xs n = posTo es n - togTo es same id n - gk m (wTo es same n) f := by
  rw [(cost_tog hx hg hf n (Nat.le_refl _)).1, tog_eq hv hl hg n (Nat.le_refl _)]; omega
theorem sum_single {l : List Int} {c0 x : Int} (hn : l.Nodup) (h : c0 ∈ l) : (l.map fun c => if c = c0 then x else 0).sum = x := by
  induction l with
  | nil => simp at h
  | cons c l ih =>
    obtain ⟨h1, h2⟩ := List.nodup_cons.1 hn
    rw [List.map_cons, List.sum_cons]
    rcases List.mem_cons.1 h with rfl | h
    · rw [if_pos rfl, sum_congr (g := fun _ => 0) (fun d hd => if_neg (fun e => h1 (by rw [← e]; exact hd))), sum_zero]; omega
    · rw [if_neg (fun e => h1 (by rw [e]; exact h)), ih h2 h]; omega
theorem sum_le_sum {α : Type} {f g : α → Int} : ∀ {l : List α}, (∀ x ∈ l, f x ≤ g x) → (l.map f).sum ≤ (l.map g).sum
  | [], _ => Int.le_refl _
  | x :: l, h => by
    have h1 := h x (List.mem_cons_self ..)
    have h2 := sum_le_sum (l := l) fun y hy => h y (List.mem_cons_of_mem _ hy)
    simp only [List.map_cons, List.sum_cons]
    omega
section
variable {same ms : List Int} {m : Nat} {WT : Int × Int → Option Int}
theorem MarkOk.mem {R : Int → Int → Prop} (K : MarkOk same m R ms) (hs : ∀ a b, R a b → R b a) {c : Int} (h : Cls same m c) : nth ms c.toNat ∈ comps ms m ∧ c ∈ clsOf same ms m (nth ms c.toNat) := by
  obtain ⟨h0, h1, h2⟩ := h
  have hi : c.toNat < m := by omega
  obtain ⟨k1, _⟩ := K.2 c.toNat hi
  exact ⟨mem_comps.2 ⟨k1.1, k1.2.1, K.self hs hi⟩, mem_cls.2 ⟨h0, h1, rfl, h2⟩⟩
theorem MarkOk.adj (K : MarkOk same m (Adj WT) ms) {a b : Int} (ha : Cls same m a) (hb : Cls same m b) (h : Adj WT a b) : nth ms a.toNat = nth ms b.toNat := by
  obtain ⟨a0, a1, a2⟩ := ha
  obtain ⟨b0, b1, b2⟩ := hb
  obtain ⟨p1, p2, p3⟩ := K.2 a.toNat (by omega)
  obtain ⟨q1, q2, q3⟩ := K.2 b.toNat (by omega)
  rw [a2] at p2
  rw [b2] at q2
  have h1 := p3 _ ((p2.step h).trans (q2.symm Adj.symm'))
  have h2 := q3 _ ((q2.step h.symm).trans (p2.symm Adj.symm'))
  omega
/-- what is kept together, by components -/
theorem gk_comps {f : Int → Int} (K : MarkOk same m (Adj WT) ms) (hk : ∀ p x, WT p = some x → Cls same m p.1 ∧ Cls same m p.2 ∧ p.1 < p.2) :
    gk m WT f = ((comps ms m).map fun c => kept m WT (clsOf same ms m c) f).sum + gsum m fun p => if f p.1 = f p.2 ∧ nth ms p.1.toNat ≠ nth ms p.2.toNat then (WT p).getD 0 else 0 := by
  have hsw : ((comps ms m).map fun c => kept m WT (clsOf same ms m c) f).sum = gsum m fun p => ((comps ms m).map fun c => if p.1 ∈ clsOf same ms m c ∧ p.2 ∈ clsOf same ms m c ∧ f p.1 = f p.2 then (WT p).getD 0 else 0).sum := by
    unfold kept gsum
    rw [sum_swap]
  rw [hsw, ← gsum_add]
  refine sum_congr fun p _ => ?_
  cases hw : WT p with
  | none =>
    simp only [Option.getD_none, ite_self]
    rw [sum_zero]; omega
  | some x =>
    obtain ⟨h1, h2, _⟩ := hk p x hw
    obtain ⟨m1, c1⟩ := K.mem Adj.symm' h1
    obtain ⟨m2, c2⟩ := K.mem Adj.symm' h2
    simp only [Option.getD_some]
    by_cases hf : f p.1 = f p.2
    · by_cases hm : nth ms p.1.toNat = nth ms p.2.toNat
      · rw [if_pos hf, if_neg (fun h => h.2 hm)]
        rw [sum_congr (g := fun c => if c = nth ms p.1.toNat then x else 0) (fun c _ => ?_), sum_single (show (comps ms m).Nodup from nodup_ixs _ _) m1]
        · omega
        · by_cases e : c = nth ms p.1.toNat
          · rw [if_pos e, if_pos ⟨by rw [e]; exact c1, by rw [e, hm]; exact c2, hf⟩]
          · rw [if_neg e, if_neg (fun h => e (mem_cls.1 h.1).2.2.1.symm)]
      · rw [if_pos hf, if_pos ⟨hf, hm⟩, sum_congr (g := fun _ => 0) (fun c _ => if_neg (fun h => hm ((mem_cls.1 h.1).2.2.1.trans (mem_cls.1 h.2.1).2.2.1.symm))), sum_zero]; omega
    · rw [if_neg hf, if_neg (fun h => hf h.1), sum_congr (g := fun _ => 0) (fun c _ => if_neg (fun h => hf h.2.2)), sum_zero]; omega
/-- across components nothing is gained -/
theorem cross_le {f : Int → Int} (K : MarkOk same m (Adj WT) ms) (hk : ∀ p x, WT p = some x → Cls same m p.1 ∧ Cls same m p.2 ∧ p.1 < p.2) :
    (gsum m fun p => if f p.1 = f p.2 ∧ nth ms p.1.toNat ≠ nth ms p.2.toNat then (WT p).getD 0 else 0) ≤ 0 := by
  have := sum_le_sum (l := grid m) (f := fun p => if f p.1 = f p.2 ∧ nth ms p.1.toNat ≠ nth ms p.2.toNat then (WT p).getD 0 else 0) (g := fun _ => 0) (fun p _ => by
    split
    · rename_i h
      cases hw : WT p with
      | none => simp
      | some x =>
        simp only [Option.getD_some]
        rcases Int.lt_or_le 0 x with hx | hx
        · obtain ⟨h1, h2, _⟩ := hk p x hw
          exact absurd (K.adj h1 h2 ⟨x, hx, .inl hw⟩) h.2
        · exact hx
    · exact Int.le_refl _)
  rw [sum_zero] at this
  exact this
end
/-- What is known of Cluster's answer, for all classes at once. -/
structure Answer (same ms : List Int) (m : Nat) (AP : Int × Int → Option Bool) (hd : Int → Int) : Prop where
  cls : ∀ c, Cls same m c → Cls same m (hd c)
  mark : ∀ c, Cls same m c → nth ms (hd c).toNat = nth ms c.toNat
  le : ∀ c, Cls same m c → hd c ≤ c
  idem : ∀ c, Cls same m c → hd (hd c) = hd c
  ap : ∀ a b, Cls same m a → Cls same m b → a < b → AP (a, b) ≠ none → hd a ≠ hd b
theorem good_split {es : List E3} {same : List Int} {ps : List (Int × Int)} (h : goodB es same ps = true) : validB same = true ∧ linkedB same.length es = true ∧ pairedB same.length ps = true := by
  unfold goodB at h
  simp only [Bool.and_eq_true] at h
  exact h
structure Facts (es : List E3) (same : List Int) (ps : List (Int × Int)) : Prop where
  v : ValidP same
  e : GoodE same.length es es.length
  p : GoodP same.length ps ps.length
  wc : ∀ p x, wTo es same es.length p = some x → Cls same same.length p.1 ∧ Cls same same.length p.2 ∧ p.1 < p.2
  ac : ∀ p x, aTo ps same ps.length p = some x → x = true ∧ Cls same same.length p.1 ∧ Cls same same.length p.2 ∧ p.1 < p.2
  wl : ∀ p, wTo es same es.length p ≠ none → p.1 < p.2
  al : ∀ p, aTo ps same ps.length p ≠ none → p.1 < p.2
  av : ∀ p b, aTo ps same ps.length p = some b → b = true
theorem good_facts {es : List E3} {same : List Int} {ps : List (Int × Int)} (h : goodB es same ps = true) : Facts es same ps := by
  obtain ⟨h1, h2, h3⟩ := good_split h
  have hv := validB_good h1
  have he := (linkedB_good rfl h2).1
  have hp := pairedB_good rfl h3
  have hw := fun p x => wTo_cls hv rfl he p x es.length (Nat.le_refl _)
  have ha := fun p x => aTo_cls hv rfl hp p x ps.length (Nat.le_refl _)
  refine ⟨hv, he, hp, hw, ha, fun p hp => ?_, fun p hp => ?_, fun p b hb => (ha p b hb).1⟩
  · obtain ⟨x, hx⟩ := Option.ne_none_iff_exists'.1 hp
    exact (hw p x hx).2.2
  · obtain ⟨x, hx⟩ := Option.ne_none_iff_exists'.1 hp
    exact (ha p x hx).2.2.2
theorem cls_range {same ms : List Int} {m : Nat} {c0 : Int} : ∀ c ∈ clsOf same ms m c0, 0 ≤ c ∧ c < m := fun c hc => ⟨(mem_cls.1 hc).1, (mem_cls.1 hc).2.1⟩
/-- The answer, per component and whole. -/
theorem cluster_facts {es : List E3} {same : List Int} {ps : List (Int × Int)} {ent : List Int} (F : Facts es same ps) (h : ClusterP es same ps ent) :
    ∃ ms hd, MarksOf es same ms ∧ ent.length = same.length ∧ (∀ i, i < same.length → nth ent i = hd (nth same i)) ∧ Answer same ms same.length (aTo ps same ps.length) hd ∧
      (∀ c ∈ comps ms same.length, ∃ hs, Solved same.length (wTo es same es.length) (aTo ps same ps.length) (clsOf same ms same.length c) hs ∧ (∀ i, i < (clsOf same ms same.length c).length → hd (nth (clsOf same ms same.length c) i) = nth hs i)) ∧
      ∀ c ∈ comps ms same.length, 0 ≤ kept same.length (wTo es same es.length) (clsOf same ms same.length c) hd := by
  obtain ⟨ms, H, hm, hs, rfl⟩ := h
  have hS : ∀ c ∈ comps ms same.length, SolOk (aTo ps same ps.length) (clsOf same ms same.length c) (fun c => nth H c.toNat) ∧ 0 ≤ kept same.length (wTo es same es.length) (clsOf same ms same.length c) (fun c => nth H c.toNat) := fun c hc => by
    obtain ⟨h', h1, h2⟩ := hs c hc
    exact h1.sol (pair_ixs _ _) cls_range F.wl F.al F.av h2
  have hmk : MarkOk same same.length (Adj (wTo es same es.length)) ms := hm
  have hof : ∀ c, Cls same same.length c → ∃ c0, c0 = nth ms c.toNat ∧ c ∈ clsOf same ms same.length c0 ∧ SolOk (aTo ps same ps.length) (clsOf same ms same.length c0) (fun c => nth H c.toNat) := fun c hc => by
    obtain ⟨h1, h2⟩ := hmk.mem Adj.symm' hc
    exact ⟨_, rfl, h2, (hS _ h1).1⟩
  refine ⟨ms, fun c => nth H c.toNat, hm, by simp, fun i hi => ?_, ?_, fun c hc => hs c hc, fun c hc => (hS c hc).2⟩
  · simp [nth, List.getD_eq_getElem?_getD, List.getElem?_eq_getElem hi]
  · refine ⟨fun c hc => ?_, fun c hc => ?_, fun c hc => ?_, fun c hc => ?_, fun a b ha hb hab hap => ?_⟩
    · obtain ⟨c0, _, h1, h2⟩ := hof c hc
      obtain ⟨k1, k2, _, k4⟩ := mem_cls.1 (h2.inn c h1)
      exact ⟨k1, k2, k4⟩
    · obtain ⟨c0, e, h1, h2⟩ := hof c hc
      rw [← e]
      exact (mem_cls.1 (h2.inn c h1)).2.2.1
    · obtain ⟨c0, _, h1, h2⟩ := hof c hc
      exact h2.le c h1
    · obtain ⟨c0, _, h1, h2⟩ := hof c hc
      exact h2.idem c h1
    · obtain ⟨c0, e0, h1, h2⟩ := hof a ha
      obtain ⟨d0, e1, h3, h4⟩ := hof b hb
      by_cases e : c0 = d0
      · subst e
        exact h2.ap a h1 b h3 hab hap
      · intro e'
        have k1 := (mem_cls.1 (h2.inn a h1)).2.2.1
        have k2 := (mem_cls.1 (h4.inn b h3)).2.2.1
        rw [e'] at k1
        exact e (k1.symm.trans k2)
theorem aTo_has {ps : List (Int × Int)} {same : List Int} {j : Nat} : ∀ k, j < k → nth same (pth ps j).1.toNat ≠ nth same (pth ps j).2.toNat → aTo ps same k (ordP (nth same (pth ps j).1.toNat) (nth same (pth ps j).2.toNat)) ≠ none
  | k + 1, hj, hne => by
    rw [aTo]
    by_cases e : j = k
    · subst e
      rw [if_pos ⟨hne, rfl⟩]; simp
    · split
      · simp
      · exact aTo_has k (by omega) hne
/-- THE LAW 'Allowed'. -/
theorem cluster_allowed {es : List E3} {same : List Int} {ps : List (Int × Int)} {ent : List Int} (hg : goodB es same ps = true) (h : ClusterP es same ps ent) : allowedB same ps ent = true ∧ costTo es ent es.length ≤ costTo es same es.length := by
  have F := good_facts hg
  obtain ⟨ms, hd, hm, hl, he, A, _, hk⟩ := cluster_facts F h
  have hmk : MarkOk same same.length (Adj (wTo es same es.length)) ms := hm
  obtain ⟨g1, g2, g3⟩ := good_split hg
  have hcls : ∀ i, i < same.length → Cls same same.length (nth same i) := fun i hi => by
    have := same_cls F.v rfl (i := (i : Int)) (by omega) (by omega)
    simpa using this
  constructor
  · unfold allowedB
    have v1 : validB ent = true := by
      unfold validB
      rw [decide_eq_true_iff]
      refine ⟨fun i hi => ?_, by rw [hl]; exact F.v.2⟩
      have hi : i < same.length := by rw [← hl]; exact hi
      have hc := hcls i hi
      obtain ⟨k1, k2, k3⟩ := A.cls _ hc
      have k4 := A.le _ hc
      have k5 := A.idem _ hc
      obtain ⟨_, k6, _⟩ := F.v.1 i hi
      unfold vAt
      rw [he i hi]
      refine ⟨k1, by omega, ?_⟩
      rw [he _ (by omega), k3, k5]
    have v2 : sameB same ent same.length = true := by
      unfold sameB
      rw [List.all_eq_true]
      intro i hi
      have hi := List.mem_range.1 hi
      obtain ⟨k1, k2, k3⟩ := hcls i hi
      rw [he i hi, he _ (by omega), k3]
      simp
    have v3 : ((List.range ps.length).any fun j => clashP same ent (pth ps j).1 (pth ps j).2) = false := by
      rw [List.any_eq_false]
      intro j hj
      have hj := List.mem_range.1 hj
      obtain ⟨q1, q2, q3, q4⟩ := F.p j hj
      unfold clashP
      rw [decide_eq_true_iff]
      rintro ⟨hne, heq⟩
      rw [he _ (by omega), he _ (by omega)] at heq
      have ca := same_cls F.v rfl q1 q2
      have cb := same_cls F.v rfl q3 q4
      have hap := aTo_has ps.length hj hne
      rcases Int.lt_or_gt_of_ne hne with hlt | hgt
      · have eo : ordP (nth same (pth ps j).1.toNat) (nth same (pth ps j).2.toNat) = (nth same (pth ps j).1.toNat, nth same (pth ps j).2.toNat) := by unfold ordP; apply Prod.ext <;> simp only <;> omega
        rw [eo] at hap
        exact A.ap _ _ ca cb hlt hap heq
      · have eo : ordP (nth same (pth ps j).1.toNat) (nth same (pth ps j).2.toNat) = (nth same (pth ps j).2.toNat, nth same (pth ps j).1.toNat) := by unfold ordP; apply Prod.ext <;> simp only <;> omega
        rw [eo] at hap
        exact A.ap _ _ cb ca hgt hap heq.symm
    rw [g1, g3, v1, v2, v3, decide_eq_true hl]
    rfl
  · rw [cost_gk F.v rfl hl F.e he, cost_gk (f := id) F.v rfl rfl F.e (fun i _ => rfl)]
    have h0 : gk same.length (wTo es same es.length) id = 0 := by
      unfold gk gsum
      rw [sum_congr (g := fun _ => 0) (fun p _ => ?_), sum_zero]
      by_cases e : id p.1 = id p.2
      · rw [if_pos e]
        cases hw : wTo es same es.length p with
        | none => rfl
        | some x => have := (F.wc p x hw).2.2; simp only [id] at e; omega
      · rw [if_neg e]
    have h1 : 0 ≤ gk same.length (wTo es same es.length) hd := by
      rw [gk_comps hmk F.wc]
      have hc0 : (gsum same.length fun p => if hd p.1 = hd p.2 ∧ nth ms p.1.toNat ≠ nth ms p.2.toNat then (wTo es same es.length p).getD 0 else 0) = 0 := by
        unfold gsum
        rw [sum_congr (g := fun _ => 0) (fun p _ => ?_), sum_zero]
        by_cases e : hd p.1 = hd p.2 ∧ nth ms p.1.toNat ≠ nth ms p.2.toNat
        · rw [if_pos e]
          cases hw : wTo es same es.length p with
          | none => rfl
          | some x =>
            obtain ⟨c1, c2, _⟩ := F.wc p x hw
            have := A.mark _ c1
            rw [e.1, A.mark _ c2] at this
            exact absurd this.symm e.2
        · rw [if_neg e]
      rw [hc0]
      have := sum_le_sum (l := comps ms same.length) (f := fun _ => 0) (g := fun c => kept same.length (wTo es same es.length) (clsOf same ms same.length c) hd) (fun c hc => hk c hc)
      rw [sum_zero] at this
      omega
    omega

end Go.Proofs.Ytiapdpbcnbgdmaa

set_option linter.unusedVariables false
set_option linter.unusedSimpArgs false
namespace Go.Proofs.Ytiapdpbcnbgdmaa
open Go.RowKit

def lessB : List Int → List Int → Bool
  | x :: xs, y :: ys => if x = y then lessB xs ys else decide (x < y)
  | _, _ => false
theorem lessB_at : ∀ (i : Nat) (xs ys : List Int), (∀ k, k < i → nth xs k = nth ys k) → i < xs.length → i < ys.length → nth xs i ≠ nth ys i → lessB xs ys = decide (nth xs i < nth ys i)
  | 0, x :: xs, y :: ys, _, _, _, hne => by
    have hne : x ≠ y := hne
    rw [lessB, if_neg hne]
    rfl
  | i + 1, x :: xs, y :: ys, h, h1, h2, hne => by
    have h0 : x = y := h 0 (by omega)
    rw [lessB, if_pos h0]
    exact lessB_at i xs ys (fun k hk => h (k + 1) (by omega)) (by simpa using h1) (by simpa using h2) hne
theorem lessB_self : ∀ xs : List Int, lessB xs xs = false
  | [] => rfl
  | x :: xs => by rw [lessB, if_pos rfl]; exact lessB_self xs
theorem nth_ext {xs ys : List Int} (hl : xs.length = ys.length) (h : ∀ k, k < xs.length → nth xs k = nth ys k) : xs = ys := by
  refine List.ext_getElem hl fun i h1 h2 => ?_
  have := h i h1
  unfold nth at this
  simpa [List.getD_eq_getElem?_getD, h1, h2] using this
theorem lessB_both : ∀ {xs ys : List Int}, xs.length = ys.length → lessB xs ys = false → lessB ys xs = false → xs = ys
  | [], [], _, _, _ => rfl
  | x :: xs, y :: ys, hl, h1, h2 => by
    rw [lessB] at h1 h2
    by_cases e : x = y
    · rw [if_pos e] at h1
      rw [if_pos e.symm] at h2
      rw [e, lessB_both (by simpa using hl) h1 h2]
    · rw [if_neg e] at h1
      rw [if_neg (Ne.symm e)] at h2
      simp only [decide_eq_false_iff_not] at h1 h2
      omega
set_option maxHeartbeats 1000000 in
theorem less_any (A1 : Option Addr) (n c1 : Nat) (xs : List Int) (A2 : Option Addr) (c2 : Nat) (ys : List Int) (w : World) (h1 : RInts w A1 n xs) (h2 : RInts w A2 n ys) :
    Calls Try.prog 42 #[.slice A1 n c1, .slice A2 n c2] w fun e w' => e = .returned (.bool (lessB xs ys)) ∧ Ext w w' := by
  have hbig := h1.big
  have hl1 := h1.len
  have hl2 := h2.len
  go_enter Try.func42, Try.ntmps42
  go_wp2
  go_loopw [5] (fun t wr => ∃ i : Nat, i ≤ n ∧ t = .int .i64 i ∧ Hid (∀ k, k < i → nth xs k = nth ys k) ∧ Ext w wr) (fun t _ => n - (intOf t).toNat)
  case atStart => exact ⟨0, Nat.zero_le _, rfl, Lib.hid (fun k hk => absurd hk (Nat.not_lt_zero _)), ⟨rfl, rfl, rfl, Nat.le_refl _, fun _ _ => rfl⟩⟩
  case round =>
    obtain ⟨i, hi, rfl, hI, hx⟩ := hrel
    by_cases hlt : i < n
    · obtain ⟨b1, o1, rfl, hc1⟩ := h1.cell (by omega)
      obtain ⟨b2, o2, rfl, hc2⟩ := h2.cell (by omega)
      have q1 := cell_ext hx (hc1 i hlt)
      have q2 := cell_ext hx (hc2 i hlt)
      clear hc1 hc2
      by_cases he : nth xs i = nth ys i
      · have hne := bne_f he
        have HI := hid_succ hI he
        clear hI he
        go_wp2
        go_quiet (fail)
        go_wp2
        go_roundw
        case rel => exact ⟨i + 1, by omega, by go_num, HI, Ext.trans hx (ext_drewN _ _)⟩
        case measure => (simp [intOf]; omega)
      · have hne := bne_t he
        have hfin := Lib.hid (lessB_at i xs ys hI.out (by omega) (by omega) he)
        clear hI he
        go_wp2
        go_quiet (fail)
        go_wp2
        go_quiet (fail)
        go_wp2
        go_ret
        exact ⟨by rw [hfin.out]; rfl, Ext.trans (Ext.trans hx (ext_drewN _ _)) (ext_drewN _ _)⟩
    · obtain rfl : i = n := by omega
      have hfin := Lib.hid (nth_ext (hl1.trans hl2.symm) (fun k hk => hI.out k (by omega)))
      clear hI
      go_wp2
      go_ret
      exact ⟨by rw [hfin.out, lessB_self]; rfl, hx⟩
set_option maxHeartbeats 1000000 in
theorem ints_any (A1 : Option Addr) (n c1 : Nat) (xs : List Int) (A2 : Option Addr) (m c2 : Nat) (ys : List Int) (w : World) (h1 : RInts w A1 n xs) (h2 : RInts w A2 m ys) :
    Calls Try.prog 14 #[.slice A1 n c1, .slice A2 m c2] w fun e w' => e = .returned (.bool (decide (xs = ys))) ∧ Ext w w' := by
  have hbig := h1.big
  have hbig2 := h2.big
  have hl1 := h1.len
  have hl2 := h2.len
  by_cases hnm : n = m
  · subst hnm
    have hc := less_any A1 n c1 xs A2 c2 ys w h1 h2
    cases hb : lessB xs ys with
    | true =>
      rw [hb] at hc
      have hne : decide (xs = ys) = false := decide_eq_false (fun e => by rw [e, lessB_self] at hb; cases hb)
      go_enter Try.func14, Try.ntmps14
      go_wp2_with (go_at_call 42; refine hc.mono ?_; rintro e w1 ⟨rfl, hx⟩)
      go_ret
      exact ⟨by rw [hne]; rfl, hx⟩
    | false =>
      rw [hb] at hc
      have hc2 := fun W (hW : Ext w W) => less_any A2 n c2 ys A1 c1 xs W (h2.ext hW) (h1.ext hW)
      cases hb2 : lessB ys xs with
      | true =>
        rw [hb2] at hc2
        have hne : decide (xs = ys) = false := decide_eq_false (fun e => by rw [e, lessB_self] at hb2; cases hb2)
        go_enter Try.func14, Try.ntmps14
        go_wp2_with (first | (go_at_call 42; refine (hc2 _ hx).mono ?_; rintro e w2 ⟨rfl, hx2⟩) | (go_at_call 42; refine hc.mono ?_; rintro e w1 ⟨rfl, hx⟩))
        go_ret
        exact ⟨by rw [hne]; rfl, Ext.trans hx hx2⟩
      | false =>
        rw [hb2] at hc2
        have hne : decide (xs = ys) = true := decide_eq_true (lessB_both (hl1.trans hl2.symm) hb hb2)
        go_enter Try.func14, Try.ntmps14
        go_wp2_with (first | (go_at_call 42; refine (hc2 _ hx).mono ?_; rintro e w2 ⟨rfl, hx2⟩) | (go_at_call 42; refine hc.mono ?_; rintro e w1 ⟨rfl, hx⟩))
        go_ret
        exact ⟨by rw [hne]; rfl, Ext.trans hx hx2⟩
  · have hne : decide (xs = ys) = false := decide_eq_false (fun e => by subst e; omega)
    have hnb : ((n : Int) == m) = false := beq_f (by omega)
    go_enter Try.func14, Try.ntmps14
    go_wp2
    go_ret
    exact ⟨by rw [hne]; rfl, ⟨rfl, rfl, rfl, Nat.le_refl _, fun _ _ => rfl⟩⟩
theorem few_any (A1 : Option Addr) (n c1 : Nat) (A2 : Option Addr) (m c2 : Nat) (A3 : Option Addr) (q c3 : Nat) (k : Int) (w : World) (h1 : n ≤ 35184372088832) (h2 : m ≤ 35184372088832) (h3 : q ≤ 35184372088832) :
    Calls Try.prog 11 #[.slice A1 n c1, .slice A2 m c2, .slice A3 q c3, .int .i64 k] w fun e w' => e = .returned (.bool (decide ((m : Int) ≤ k ∧ n ≤ 80 ∧ q ≤ 40))) ∧ w = w' := by
  go_enter Try.func11, Try.ntmps11
  go_wp2
  all_goals (go_ret; refine ⟨ret_bool ?_, rfl⟩; symm; first | (rw [decide_eq_true_iff]; omega) | (rw [decide_eq_false_iff_not]; omega) | (rw [Bool.eq_iff_iff]; simp only [decide_eq_true_eq, Bool.or_eq_true, Bool.and_eq_true]; omega) | (simp; omega))
theorem edge_any (a b x : Int) (w : World) : Calls Try.prog 23 #[.int .i64 a, .int .i64 b, .int .i64 x] w fun e w' => e = .returned (.agg #[.int .i64 a, .int .i64 b, .int .i64 x]) ∧ Ext w w' := by
  have hnew := heap_alloc_new w (.cells #[.int .i64 a, .int .i64 b, .int .i64 x] 40)
  obtain ⟨d0, f0⟩ := cells_of hnew 0 rfl
  obtain ⟨d1, f1⟩ := cells_of hnew 1 rfl
  obtain ⟨d2, f2⟩ := cells_of hnew 2 rfl
  have hx := ext_alloc w (.cells #[.int .i64 a, .int .i64 b, .int .i64 x] 40)
  go_enter Try.func23, Try.ntmps23
  go_wp2
  refine bodyPost_ret (v := .agg #[.int .i64 a, .int .i64 b, .int .i64 x]) ?_ rfl ⟨rfl, hx⟩
  simp [results, Try.results23, go_sem, d0, d1, d2]
set_option maxHeartbeats 1000000 in
theorem is_any (A : Option Addr) (n c : Nat) (es : List E3) (A1 : Option Addr) (m c1 : Nat) (same : List Int) (A2 : Option Addr) (q c2 : Nat) (ps : List (Int × Int)) (A3 : Option Addr) (m3 c3 : Nat) (want : List Int) (w : World)
    (h : REdges w A n es) (h1 : RInts w A1 m same) (h2 : RPairs w A2 q ps) (h3 : RInts w A3 m3 want) (hm : m ≤ 40) (hn : n ≤ 80) (hg : goodB es same ps = true) (hw : ∀ ent, ClusterP es same ps ent → ent = want) :
    Calls Try.prog 24 #[.slice A n c, .slice A1 m c1, .slice A2 q c2, .slice A3 m3 c3] w fun e w' => e = .returned (.bool true) ∧ Ext w w' := by
  have hc := cluster_any A n c es A1 m c1 same A2 q c2 ps w h h1 h2 hm hn
  simp only [hg, if_true] at hc
  obtain rfl := h3.len
  go_enter Try.func24, Try.ntmps24
  go_wp2_with (first
    | (go_at_call 12
       refine hc.mono ?_
       rintro e w1 ⟨v, k, rfl, hx, rfl, ent, hcp, hrow⟩
       have hent := hw ent hcp
       subst hent
       obtain rfl : ent.length = m := by have := hrow.1; simpa using this
       obtain ⟨A4, c4, rfl, hr4⟩ := own_reads hrow (by omega))
    | (go_at_call 14
       refine (ints_any A4 ent.length c4 ent A3 ent.length c3 ent _ hr4 (h3.ext hx)).mono ?_
       rintro e w2 ⟨rfl, hx2⟩
       rw [decide_eq_true (rfl : ent = ent)]))
  go_ret
  exact ⟨rfl, Ext.trans hx hx2⟩

end Go.Proofs.Ytiapdpbcnbgdmaa

set_option linter.unusedVariables false
set_option linter.unusedSimpArgs false
namespace Go.Proofs.Ytiapdpbcnbgdmaa
open Go.RowKit

/-! The solvers answer one row of heads; what it hangs on. -/
section
variable {q : Nat} {WT WT' : Int × Int → Option Int} {AP AP' : Int × Int → Option Bool} {cl : List Int}
theorem WG_congr (hW : ∀ a ∈ cl, ∀ b ∈ cl, (WT (a, b)).getD 0 = (WT' (a, b)).getD 0) (hd : Int → Int) (p : Int × Int) : WG q WT cl hd p = WG q WT' cl hd p := by
  refine sum_congr fun p' _ => ?_
  by_cases h : p'.1 ∈ cl ∧ p'.2 ∈ cl ∧ ordP (hd p'.1) (hd p'.2) = p
  · rw [if_pos h, if_pos h]; exact hW _ h.1 _ h.2.1
  · rw [if_neg h, if_neg h]
theorem Best.weights (hW : ∀ a ∈ cl, ∀ b ∈ cl, (WT (a, b)).getD 0 = (WT' (a, b)).getD 0) {hd : Int → Int} {p : Int × Int} (h : Best q WT AP cl hd p) : Best q WT' AP cl hd p :=
  ⟨h.cand, by rw [← WG_congr hW]; exact h.pos, fun p' hp' => by rw [← WG_congr hW, ← WG_congr hW]; exact h.best p' hp'⟩
theorem GRun.weights (hW : ∀ a ∈ cl, ∀ b ∈ cl, (WT (a, b)).getD 0 = (WT' (a, b)).getD 0) {hd hd' : Int → Int} (h : GRun q WT AP cl hd hd') : GRun q WT' AP cl hd hd' := by
  induction h with
  | stop hs => exact .stop fun p hp => by rw [← WG_congr hW]; exact hs p hp
  | step hb _ ih => exact .step (hb.weights hW) ih
theorem cmpP_eq {p p' : Int × Int} (h : cmpP p p' ≤ 0) (h' : cmpP p' p ≤ 0) : p = p' := by
  unfold cmpP cmpI at *
  apply Prod.ext
  · repeat' split at h
    all_goals (repeat' split at h')
    all_goals omega
  · repeat' split at h
    all_goals (repeat' split at h')
    all_goals omega
theorem Best.uniq {hd : Int → Int} {p p' : Int × Int} (h : Best q WT AP cl hd p) (h' : Best q WT AP cl hd p') : p = p' := by
  rcases h.best p' h'.cand with h1 | ⟨h1, h2⟩
  · rcases h'.best p h.cand with h3 | ⟨h3, _⟩ <;> omega
  · rcases h'.best p h.cand with h3 | ⟨_, h4⟩
    · omega
    · exact cmpP_eq h2 h4
theorem GRun.uniq {hd f g : Int → Int} (h : GRun q WT AP cl hd f) : GRun q WT AP cl hd g → f = g := by
  induction h with
  | stop hs =>
    intro h'
    cases h' with
    | stop _ => rfl
    | step hb _ => have := hs _ hb.cand; have := hb.pos; omega
  | step hb _ ih =>
    intro h'
    cases h' with
    | stop hs => have := hs _ hb.cand; have := hb.pos; omega
    | step hb' hr =>
      obtain rfl := hb.uniq hb'
      exact ih hr
theorem GRun.together {hd f : Int → Int} (h : GRun q WT AP cl hd f) {x y : Int} : hd x = hd y → f x = f y := by
  induction h with
  | stop _ => exact id
  | step _ _ ih => intro e; exact ih (by simp only [e])
theorem GRun.out {hd f : Int → Int} (h : GRun q WT AP cl hd f) : (∀ c, c ∉ cl → hd c = c) → ∀ c, c ∉ cl → f c = c := by
  induction h with
  | stop _ => exact id
  | @step hd hd' p hb _ ih =>
    intro ho
    refine ih fun c hc => ?_
    show subst _ _ (hd c) = c
    rw [ho c hc]
    unfold subst
    rw [if_neg (fun e => hc (by rw [e]; exact hb.cand.in2))]
/-- A pair of classes in different clusters of the answer may be decided to be apart. -/
theorem GRun.further {hd f : Int → Int} {a b : Int} (hAP : ∀ p, AP' p ≠ none ↔ AP p ≠ none ∨ p = ordP a b) (h : GRun q WT AP cl hd f) : f a ≠ f b → GRun q WT AP' cl hd f := by
  have hsub : ∀ {hd : Int → Int} {p : Int × Int}, Cand AP' cl hd p → Cand AP cl hd p := fun {hd p} hc => ⟨hc.in1, hc.in2, hc.h1, hc.h2, hc.lt, fun ⟨p', h1, h2⟩ => hc.ap ⟨p', (hAP p').2 (.inl h1), h2⟩⟩
  induction h with
  | stop hs => intro _; exact .stop fun p hp => hs p (hsub hp)
  | @step hd hd' p hb hr ih =>
    intro hne
    refine .step ⟨⟨hb.cand.in1, hb.cand.in2, hb.cand.h1, hb.cand.h2, hb.cand.lt, ?_⟩, hb.pos, fun p' hp' => hb.best p' (hsub hp')⟩ (ih hne)
    rintro ⟨p', h1, h2⟩
    rcases (hAP p').1 h1 with h | rfl
    · exact hb.cand.ap ⟨p', h, h2⟩
    · refine hne (hr.together ?_)
      show subst p.1 p.2 (hd a) = subst p.1 p.2 (hd b)
      have ho := (ordP_eq (a := hd (ordP a b).1) (b := hd (ordP a b).2) hb.cand.lt).1 h2
      have hlt := hb.cand.lt
      unfold ordP at ho
      simp only at ho
      unfold subst
      rcases Int.le_total a b with hab | hab
      · rw [Int.min_eq_left hab, Int.max_eq_right hab] at ho
        split <;> split <;> omega
      · rw [Int.min_eq_right hab, Int.max_eq_left hab] at ho
        split <;> split <;> omega
theorem keptIn_congr {x : List Int} {i : Nat} (hi : i < cl.length) (hW : ∀ a ∈ cl, ∀ b ∈ cl, (WT (a, b)).getD 0 = (WT' (a, b)).getD 0) : ∀ k, k ≤ i → keptIn WT cl x i k = keptIn WT' cl x i k
  | 0, _ => rfl
  | k + 1, hk => by
    rw [keptIn, keptIn, keptIn_congr hi hW k (by omega), hW _ (nth_mem (show k < cl.length by omega)) _ (nth_mem hi)]
theorem keptTo_congr {x : List Int} (hW : ∀ a ∈ cl, ∀ b ∈ cl, (WT (a, b)).getD 0 = (WT' (a, b)).getD 0) : ∀ n, n ≤ cl.length → keptTo WT cl x n = keptTo WT' cl x n
  | 0, _ => rfl
  | n + 1, hn => by rw [keptTo, keptTo, keptTo_congr hW n (by omega), keptIn_congr (by omega) hW n (Nat.le_refl _)]
theorem bestOf_congr (hW : ∀ a ∈ cl, ∀ b ∈ cl, (WT (a, b)).getD 0 = (WT' (a, b)).getD 0) (xs : List (List Int)) : bestOf WT cl cl.length xs = bestOf WT' cl cl.length xs := by
  unfold bestOf
  have : bestStep WT cl cl.length = bestStep WT' cl cl.length := by
    funext o x
    cases o with
    | none => simp only [bestStep, keptTo_congr hW _ (Nat.le_refl _)]
    | some p => obtain ⟨b, l⟩ := p; simp only [bestStep, keptTo_congr hW _ (Nat.le_refl _)]
  rw [this]
theorem Solved.weights {hs : List Int} (hW : ∀ a ∈ cl, ∀ b ∈ cl, (WT (a, b)).getD 0 = (WT' (a, b)).getD 0) (h : Solved q WT AP cl hs) : Solved q WT' AP cl hs := by
  rcases h with ⟨h1, l, h2⟩ | ⟨h1, f, h2, h3⟩
  · exact .inl ⟨h1, l, by rw [← bestOf_congr hW]; exact h2⟩
  · exact .inr ⟨h1, f, h2.weights hW, h3⟩
theorem Solved.uniq {hs hs' : List Int} (h : Solved q WT AP cl hs) (h' : Solved q WT AP cl hs') : hs = hs' := by
  rcases h with ⟨h1, l, h2⟩ | ⟨h1, f, h2, rfl⟩
  · rcases h' with ⟨_, l', h3⟩ | ⟨h3, _⟩
    · rw [h2] at h3; exact congrArg Prod.fst (Option.some.inj h3)
    · omega
  · rcases h' with ⟨h3, _⟩ | ⟨_, g, h3, rfl⟩
    · omega
    · rw [h2.uniq h3]
/-! the first of the best ones -/
theorem bestOf_start {W : Int × Int → Option Int} {n : Nat} : ∀ (xs : List (List Int)) (b : List Int), (∀ x ∈ xs, keptTo W cl x n ≤ keptTo W cl b n) → xs.foldl (bestStep W cl n) (some (b, -keptTo W cl b n)) = some (b, -keptTo W cl b n)
  | [], _, _ => rfl
  | y :: xs, b, h => by
    have hy := h y (List.mem_cons_self ..)
    rw [List.foldl_cons, show bestStep W cl n (some (b, -keptTo W cl b n)) y = some (b, -keptTo W cl b n) by simp [bestStep]; omega]
    exact bestOf_start xs b fun x hx => h x (List.mem_cons_of_mem _ hx)
theorem bestOf_split {W : Int × Int → Option Int} {n : Nat} {b : List Int} {post : List (List Int)} (hpost : ∀ x ∈ post, keptTo W cl x n ≤ keptTo W cl b n) : ∀ pre : List (List Int), (∀ x ∈ pre, keptTo W cl x n < keptTo W cl b n) → bestOf W cl n (pre ++ b :: post) = some (b, -keptTo W cl b n) := by
  intro pre hpre
  unfold bestOf
  rw [List.foldl_append, List.foldl_cons]
  have : bestStep W cl n (pre.foldl (bestStep W cl n) none) b = some (b, -keptTo W cl b n) := by
    cases pre with
    | nil => rfl
    | cons y pre =>
      obtain ⟨c, h1, h2, _⟩ := bestOf_inv (W := W) (cl := cl) (n := n) (y :: pre) (by simp)
      unfold bestOf at h1
      rw [h1]
      have := hpre c h2
      simp [bestStep]
      omega
  rw [this]
  exact bestOf_start post b hpost
/-- .. and every answer is one of them -/
theorem bestOf_parts {W : Int × Int → Option Int} {n : Nat} {b : List Int} {l : Int} : ∀ xs : List (List Int), bestOf W cl n xs = some (b, l) → ∃ pre post, xs = pre ++ b :: post ∧ (∀ x ∈ pre, keptTo W cl x n < keptTo W cl b n) ∧ ∀ x ∈ post, keptTo W cl x n ≤ keptTo W cl b n := by
  intro xs h
  -- split at the first of the greatest
  obtain ⟨c, h1, h2, h3⟩ := bestOf_inv (W := W) (cl := cl) (n := n) xs (fun e => by rw [e] at h; cases h)
  have hfirst : ∀ ys : List (List Int), (∃ x ∈ ys, keptTo W cl x n = keptTo W cl c n) → (∀ x ∈ ys, keptTo W cl x n ≤ keptTo W cl c n) → ∃ pre d post, ys = pre ++ d :: post ∧ keptTo W cl d n = keptTo W cl c n ∧ ∀ x ∈ pre, keptTo W cl x n < keptTo W cl c n := by
    intro ys
    induction ys with
    | nil => rintro ⟨x, hx, _⟩; simp at hx
    | cons y ys ih =>
      rintro ⟨x, hx, e⟩ hle
      by_cases ey : keptTo W cl y n = keptTo W cl c n
      · exact ⟨[], y, ys, rfl, ey, fun x hx => by simp at hx⟩
      · have hx' : x ∈ ys := by rcases List.mem_cons.1 hx with rfl | h; exact absurd e ey; exact h
        obtain ⟨pre, d, post, e1, e2, e3⟩ := ih ⟨x, hx', e⟩ (fun z hz => hle z (List.mem_cons_of_mem _ hz))
        refine ⟨y :: pre, d, post, by rw [e1]; rfl, e2, fun z hz => ?_⟩
        rcases List.mem_cons.1 hz with rfl | hz
        · have := hle z (List.mem_cons_self ..); omega
        · exact e3 z hz
  obtain ⟨pre, d, post, e1, e2, e3⟩ := hfirst xs ⟨c, h2, rfl⟩ h3
  have hp : ∀ x ∈ post, keptTo W cl x n ≤ keptTo W cl d n := fun x hx => by rw [e2]; exact h3 x (by rw [e1]; simp [hx])
  have := bestOf_split hp pre (fun x hx => by rw [e2]; exact e3 x hx)
  rw [← e1, h] at this
  obtain rfl : b = d := congrArg Prod.fst (Option.some.inj this)
  exact ⟨pre, post, e1, fun x hx => by rw [e2]; exact e3 x hx, hp⟩
theorem bestOf_filter {W : Int × Int → Option Int} {n : Nat} {b : List Int} {l : Int} {xs : List (List Int)} (P : List Int → Bool) (h : bestOf W cl n xs = some (b, l)) (hb : P b = true) : ∃ l', bestOf W cl n (xs.filter P) = some (b, l') := by
  obtain ⟨pre, post, rfl, h1, h2⟩ := bestOf_parts xs h
  rw [List.filter_append, List.filter_cons, if_pos hb]
  exact ⟨_, bestOf_split (fun x hx => h2 x ((List.mem_filter.1 hx).1)) _ (fun x hx => h1 x ((List.mem_filter.1 hx).1))⟩
/-- no clash from an index on -/
def noClash (AP : Int × Int → Option Bool) (cl : List Int) (j : Nat) (x : List Int) : Bool := (List.range x.length).all fun i => decide (i < j) || !clashB AP cl x i
theorem noClash_iff {j : Nat} {x : List Int} : noClash AP cl j x = true ↔ ∀ i, j ≤ i → i < x.length → clashB AP cl x i = false := by
  unfold noClash
  rw [List.all_eq_true]
  constructor
  · intro h i h1 h2
    have := h i (List.mem_range.2 h2)
    simp only [Bool.or_eq_true, decide_eq_true_eq, Bool.not_eq_true'] at this
    rcases this with h | h
    · omega
    · exact h
  · intro h i hi
    have hi := List.mem_range.1 hi
    simp only [Bool.or_eq_true, decide_eq_true_eq, Bool.not_eq_true']
    rcases Nat.lt_or_ge i j with h' | h'
    · exact .inl h'
    · exact .inr (h i h' hi)
theorem enum_filter (hsub : ∀ x i, clashB AP cl x i = true → clashB AP' cl x i = true) : ∀ (d : Nat) (pfx : List Int), enum AP' cl d pfx = (enum AP cl d pfx).filter (noClash AP' cl pfx.length)
  | 0, pfx => by
    have : noClash AP' cl pfx.length pfx = true := noClash_iff.2 fun i h1 h2 => by omega
    rw [enum, enum, List.filter_cons, if_pos this, List.filter_nil]
  | d + 1, pfx => by
    rw [enum, enum, List.filter_flatMap]
    refine congrArg (fun f => (List.range (pfx.length + 1)).flatMap f) ?_
    funext k
    by_cases h1 : k < pfx.length ∧ nth pfx k ≠ nth cl k
    · rw [if_pos h1, if_pos h1]; rfl
    · rw [if_neg h1, if_neg h1]
      have hlen : (pfx ++ [nth cl k]).length = pfx.length + 1 := by simp
      have hpx : ∀ x ∈ enum AP cl d (pfx ++ [nth cl k]), clashB AP' cl x pfx.length = clashB AP' cl (pfx ++ [nth cl k]) pfx.length ∧ pfx.length < x.length := fun x hx => by
        obtain ⟨e1, e2, _⟩ := (mem_enum d _ x).1 hx
        rw [hlen] at e1 e2
        refine ⟨clashB_congr' fun i hi => ?_, by omega⟩
        rw [← e2]
        unfold nth
        rw [List.getD_eq_getElem?_getD, List.getD_eq_getElem?_getD, List.getElem?_take_of_lt (by omega)]
      by_cases h2 : clashB AP' cl (pfx ++ [nth cl k]) pfx.length = true
      · rw [if_pos h2]
        by_cases h3 : clashB AP cl (pfx ++ [nth cl k]) pfx.length = true
        · rw [if_pos h3]; rfl
        · rw [if_neg h3]
          symm
          rw [List.filter_eq_nil_iff]
          intro x hx hn
          have := noClash_iff.1 hn pfx.length (Nat.le_refl _) (hpx x hx).2
          rw [(hpx x hx).1, h2] at this
          cases this
      · have h3 : ¬ clashB AP cl (pfx ++ [nth cl k]) pfx.length = true := fun h => h2 (hsub _ _ h)
        rw [if_neg h2, if_neg h3, enum_filter hsub d]
        refine List.filter_congr fun x hx => ?_
        rw [Bool.eq_iff_iff, noClash_iff, noClash_iff, hlen]
        constructor
        · intro h i hi1 hi2
          rcases Nat.lt_or_eq_of_le hi1 with h' | rfl
          · exact h i (by omega) hi2
          · rw [(hpx x hx).1]; simpa using h2
        · intro h i hi1 hi2
          exact h i (by omega) hi2
theorem clashB_iff {x : List Int} {i : Nat} : clashB AP cl x i = true ↔ ∃ k, k < i ∧ nth x k = nth x i ∧ (AP (apK cl k i)).getD false = true := by
  unfold clashB
  rw [List.any_eq_true]
  constructor
  · rintro ⟨k, hk, h⟩
    unfold clashK at h
    simp only [Bool.and_eq_true, decide_eq_true_eq] at h
    exact ⟨k, List.mem_range.1 hk, h.1, h.2⟩
  · rintro ⟨k, hk, h1, h2⟩
    refine ⟨k, List.mem_range.2 hk, ?_⟩
    unfold clashK
    simp only [Bool.and_eq_true, decide_eq_true_eq]
    exact ⟨h1, h2⟩
/-- A decision that the answer obeys changes nothing. -/
theorem Solved.further {hs : List Int} {f : Int → Int} {a b : Int} (hn : cl.Nodup) (hAv : ∀ p x, AP p = some x → x = true) (hAv' : ∀ p x, AP' p = some x → x = true) (hAP : ∀ p, AP' p ≠ none ↔ AP p ≠ none ∨ p = ordP a b) (hf : ∀ i, i < cl.length → f (nth cl i) = nth hs i)
    (hab : a ∈ cl → b ∈ cl → f a ≠ f b) (hne : a ≠ b) (hin : ∀ c ∈ cl, f c ∈ cl) (h : Solved q WT AP cl hs) : Solved q WT AP' cl hs := by
  have hg : ∀ {A : Int × Int → Option Bool} (hv : ∀ p x, A p = some x → x = true) (p : Int × Int), (A p).getD false = true ↔ A p ≠ none := fun {A} hv p => by
    cases hp : A p with
    | none => simp
    | some x => rw [hv p x hp]; simp
  rcases h with ⟨h1, l, h2⟩ | ⟨h1, g, h2, rfl⟩
  · have hsub : ∀ x i, clashB AP cl x i = true → clashB AP' cl x i = true := fun x i h => by
      obtain ⟨k, e1, e2, e3⟩ := clashB_iff.1 h
      exact clashB_iff.2 ⟨k, e1, e2, (hg hAv' _).2 ((hAP _).2 (.inl ((hg hAv _).1 e3)))⟩
    have hmem : hs ∈ enum AP cl cl.length [] := by
      obtain ⟨pre, post, e, _⟩ := bestOf_parts _ h2
      rw [e]; simp
    obtain ⟨el, _, eE⟩ := (mem_enum _ _ _).1 hmem
    have el : hs.length = cl.length := by simpa using el
    have hnc : noClash AP' cl 0 hs = true := noClash_iff.2 fun i _ hi => by
      rw [← Bool.not_eq_true]
      intro hc
      obtain ⟨k, e1, e2, e3⟩ := clashB_iff.1 hc
      rcases (hAP _).1 ((hg hAv' _).1 e3) with h | h
      · have := (eE i (Nat.zero_le _) hi).2
        rw [clashB_iff.2 ⟨k, e1, e2, (hg hAv _).2 h⟩] at this
        cases this
      · have m1 := nth_mem (show k < cl.length by omega)
        have m2 := nth_mem (show i < cl.length by omega)
        rw [← hf k (by omega), ← hf i (by omega)] at e2
        unfold apK ordP at h
        have h3 := congrArg Prod.fst h
        have h4 := congrArg Prod.snd h
        simp only at h3 h4
        have : (nth cl k = a ∧ nth cl i = b) ∨ (nth cl k = b ∧ nth cl i = a) := by omega
        rcases this with ⟨e4, e5⟩ | ⟨e4, e5⟩
        · rw [e4] at m1 e2; rw [e5] at m2 e2; exact hab m1 m2 e2
        · rw [e4] at m1 e2; rw [e5] at m2 e2; exact hab m2 m1 e2.symm
    obtain ⟨l', h3⟩ := bestOf_filter (noClash AP' cl 0) h2 hnc
    have hef := enum_filter hsub cl.length []
    rw [List.length_nil] at hef
    rw [← hef] at h3
    exact .inl ⟨h1, l', h3⟩
  · refine .inr ⟨h1, g, h2.further hAP ?_, rfl⟩
    have hfg : ∀ c ∈ cl, f c = g c := fun c hc => by
      obtain ⟨i, hi, rfl⟩ := nth_of_mem hc
      rw [hf i hi]
      simp [nth, List.getD_eq_getElem?_getD, hi]
    have ho := h2.out (fun c _ => rfl)
    by_cases ha : a ∈ cl
    · by_cases hb : b ∈ cl
      · rw [← hfg a ha, ← hfg b hb]; exact hab ha hb
      · rw [ho b hb, ← hfg a ha]
        intro e
        exact hb (by rw [← e]; exact hin a ha)
    · rw [ho a ha]
      by_cases hb : b ∈ cl
      · rw [← hfg b hb]
        intro e
        exact ha (by rw [e]; exact hin b hb)
      · rw [ho b hb]; exact hne
end

end Go.Proofs.Ytiapdpbcnbgdmaa

set_option linter.unusedVariables false
set_option linter.unusedSimpArgs false
namespace Go.Proofs.Ytiapdpbcnbgdmaa
open Go.RowKit

/-! One answer for two inputs. -/
theorem MarkOk.congr {same ms : List Int} {m : Nat} {R R' : Int → Int → Prop} (h : ∀ a b, R a b ↔ R' a b) (K : MarkOk same m R ms) : MarkOk same m R' ms := by
  have : R = R' := by funext a b; exact propext (h a b)
  rw [← this]; exact K
theorem MarkOk.same_eq {same ms : List Int} {m : Nat} {R : Int → Int → Prop} (K : MarkOk same m R ms) (hs : ∀ a b, R a b → R b a) (hv : ValidP same) (hl : same.length = m) {i : Nat} (hi : i < m) : nth ms (nth same i).toNat = nth ms i := by
  obtain ⟨k0, k1, k2⟩ := hv.1 i (by omega)
  obtain ⟨a1, a2, a3⟩ := K.2 i hi
  obtain ⟨b1, b2, b3⟩ := K.2 (nth same i).toNat (by omega)
  rw [k2] at b2
  have h1 := a3 _ (a2.trans (b2.symm hs))
  have h2 := b3 _ (b2.trans (a2.symm hs))
  omega
theorem cluster_same {es es' : List E3} {same : List Int} {ps ps' : List (Int × Int)} {a b : List Int} (F : Facts es same ps) (F' : Facts es' same ps') (hadj : ∀ x y, Adj (wTo es same es.length) x y ↔ Adj (wTo es' same es'.length) x y)
    (ha : ClusterP es same ps a) (hb : ClusterP es' same ps' b)
    (hsolve : ∀ ms hd, MarksOf es same ms → Answer same ms same.length (aTo ps same ps.length) hd → (∀ i, i < same.length → nth a i = hd (nth same i)) → ∀ c ∈ comps ms same.length, ∀ hs, Solved same.length (wTo es same es.length) (aTo ps same ps.length) (clsOf same ms same.length c) hs → (∀ i, i < (clsOf same ms same.length c).length → hd (nth (clsOf same ms same.length c) i) = nth hs i) → Solved same.length (wTo es' same es'.length) (aTo ps' same ps'.length) (clsOf same ms same.length c) hs) : a = b := by
  obtain ⟨ms, hd, hm, hl, he, A, hs, _⟩ := cluster_facts F ha
  obtain ⟨ms', hd', hm', hl', he', A', hs', _⟩ := cluster_facts F' hb
  have hmk : MarkOk same same.length (Adj (wTo es same es.length)) ms := hm
  have hmk' : MarkOk same same.length (Adj (wTo es' same es'.length)) ms' := hm'
  obtain rfl : ms = ms' := (hmk.congr hadj).uniq hmk' Adj.symm'
  refine nth_ext (hl.trans hl'.symm) fun i hi => ?_
  have hi : i < same.length := by omega
  rw [he i hi, he' i hi]
  have hc := same_cls F.v rfl (i := (i : Int)) (by omega) (by omega)
  rw [Int.toNat_natCast] at hc
  obtain ⟨h1, h2⟩ := hmk.mem Adj.symm' hc
  obtain ⟨x, hx, hxv⟩ := hs _ h1
  obtain ⟨y, hy, hyv⟩ := hs' _ h1
  have hxy := (hsolve ms hd hm A he _ h1 x hx hxv).uniq hy
  obtain ⟨k, hk, e⟩ := nth_of_mem h2
  rw [← e, hxv k hk, hyv k hk, hxy]
/-! The weights as sums. -/
def keyB (same : List Int) (p : Int × Int) (e : E3) : Bool := decide (nth same e.a.toNat ≠ nth same e.b.toNat ∧ p = (min (nth same e.a.toNat) (nth same e.b.toNat), max (nth same e.a.toNat) (nth same e.b.toNat)))
def valK (same : List Int) (p : Int × Int) (e : E3) : Int := if keyB same p e = true then e.w else 0
theorem eth_take {es : List E3} {k : Nat} (h : k < es.length) : es.take (k + 1) = es.take k ++ [eth es k] := by
  rw [List.take_succ_eq_append_getElem h]
  simp [eth, List.getD_eq_getElem?_getD, List.getElem?_eq_getElem h]
theorem wTo_sumK {es : List E3} {same : List Int} {p : Int × Int} : ∀ k, k ≤ es.length → wTo es same k p = if (es.take k).any (keyB same p) = true then some ((es.take k).map (valK same p)).sum else none
  | 0, _ => by simp [wTo]
  | k + 1, hk => by
    rw [wTo, wTo_sumK k (by omega), eth_take hk, List.any_append, List.map_append, List.sum_append]
    simp only [List.any_cons, List.any_nil, Bool.or_false, List.map_cons, List.map_nil, List.sum_cons, List.sum_nil, Int.add_zero]
    by_cases hc : nth same (eth es k).a.toNat ≠ nth same (eth es k).b.toNat ∧ p = (min (nth same (eth es k).a.toNat) (nth same (eth es k).b.toNat), max (nth same (eth es k).a.toNat) (nth same (eth es k).b.toNat))
    · have hkb : keyB same p (eth es k) = true := decide_eq_true hc
      rw [if_pos hc, hkb, Bool.or_true, if_pos rfl]
      have hv : valK same p (eth es k) = (eth es k).w := by unfold valK; rw [if_pos hkb]
      rw [hv]
      by_cases ha : (es.take k).any (keyB same p) = true
      · rw [if_pos ha]; rfl
      · rw [if_neg ha]
        have hz : ((es.take k).map (valK same p)).sum = 0 := by
          rw [sum_congr (g := fun _ => 0) (fun e he => ?_), sum_zero]
          unfold valK
          rw [if_neg]
          intro h
          exact ha (List.any_eq_true.2 ⟨e, he, h⟩)
        rw [hz]; rfl
    · have hkb : keyB same p (eth es k) = false := decide_eq_false hc
      rw [if_neg hc, hkb, Bool.or_false]
      have hv : valK same p (eth es k) = 0 := by unfold valK; rw [hkb]; rfl
      rw [hv, Int.add_zero]
theorem wTo_all {es : List E3} {same : List Int} {p : Int × Int} : wTo es same es.length p = if es.any (keyB same p) = true then some (es.map (valK same p)).sum else none := by
  have := wTo_sumK (es := es) (same := same) (p := p) es.length (Nat.le_refl _)
  rwa [List.take_length] at this
def keyA (same : List Int) (p : Int × Int) (e : Int × Int) : Bool := decide (nth same e.1.toNat ≠ nth same e.2.toNat ∧ p = (min (nth same e.1.toNat) (nth same e.2.toNat), max (nth same e.1.toNat) (nth same e.2.toNat)))
theorem pth_take {ps : List (Int × Int)} {k : Nat} (h : k < ps.length) : ps.take (k + 1) = ps.take k ++ [pth ps k] := by
  rw [List.take_succ_eq_append_getElem h]
  simp [pth, List.getD_eq_getElem?_getD, List.getElem?_eq_getElem h]
theorem aTo_anyK {ps : List (Int × Int)} {same : List Int} {p : Int × Int} : ∀ k, k ≤ ps.length → aTo ps same k p = if (ps.take k).any (keyA same p) = true then some true else none
  | 0, _ => by simp [aTo]
  | k + 1, hk => by
    rw [aTo, aTo_anyK k (by omega), pth_take hk, List.any_append]
    simp only [List.any_cons, List.any_nil, Bool.or_false]
    by_cases hc : nth same (pth ps k).1.toNat ≠ nth same (pth ps k).2.toNat ∧ p = (min (nth same (pth ps k).1.toNat) (nth same (pth ps k).2.toNat), max (nth same (pth ps k).1.toNat) (nth same (pth ps k).2.toNat))
    · have hkb : keyA same p (pth ps k) = true := decide_eq_true hc
      rw [if_pos hc, hkb, Bool.or_true, if_pos rfl]
    · have hkb : keyA same p (pth ps k) = false := decide_eq_false hc
      rw [if_neg hc, hkb, Bool.or_false]
theorem aTo_all {ps : List (Int × Int)} {same : List Int} {p : Int × Int} : aTo ps same ps.length p = if ps.any (keyA same p) = true then some true else none := by
  have := aTo_anyK (ps := ps) (same := same) (p := p) ps.length (Nat.le_refl _)
  rwa [List.take_length] at this
/-! THE LAW 'Evidence'. -/
def twice (part : Int) (es : List E3) : List E3 := es.reverse.flatMap fun e => [⟨e.b, e.a, e.w - part⟩, ⟨e.a, e.b, part⟩]
def swapped (ps : List (Int × Int)) : List (Int × Int) := ps.reverse.map fun p => (p.2, p.1)
theorem keyB_swap {same : List Int} {p : Int × Int} {a b w w' : Int} : keyB same p ⟨b, a, w⟩ = keyB same p ⟨a, b, w'⟩ := by
  unfold keyB
  simp only
  rw [Int.min_comm, Int.max_comm]
  congr 1
  exact propext ⟨fun h => ⟨Ne.symm h.1, h.2⟩, fun h => ⟨Ne.symm h.1, h.2⟩⟩
theorem any_congr' {α : Type} {f g : α → Bool} {l : List α} (h : ∀ x ∈ l, f x = g x) : l.any f = l.any g := by
  rw [Bool.eq_iff_iff, List.any_eq_true, List.any_eq_true]
  exact ⟨fun ⟨x, hx, e⟩ => ⟨x, hx, by rw [← h x hx]; exact e⟩, fun ⟨x, hx, e⟩ => ⟨x, hx, by rw [h x hx]; exact e⟩⟩
theorem sum_flatMap {α β : Type} (f : α → List β) (g : β → Int) : ∀ l : List α, ((l.flatMap f).map g).sum = (l.map fun x => ((f x).map g).sum).sum
  | [] => rfl
  | x :: l => by rw [List.flatMap_cons, List.map_append, List.sum_append, sum_flatMap f g l]; rfl
theorem wTo_twice {same : List Int} {es : List E3} {part : Int} (p : Int × Int) : wTo (twice part es) same (twice part es).length p = wTo es same es.length p := by
  rw [wTo_all, wTo_all]
  have h1 : (twice part es).any (keyB same p) = es.any (keyB same p) := by
    unfold twice
    rw [List.any_flatMap, List.any_reverse]
    refine any_congr' fun e _ => ?_
    simp only [List.any_cons, List.any_nil, Bool.or_false]
    rw [keyB_swap (w := e.w - part) (w' := part), keyB_swap (a := e.b) (b := e.a) (w := part) (w' := part), keyB_swap (w := part) (w' := e.w)]
    cases keyB same p ⟨e.a, e.b, e.w⟩ <;> rfl
  have h2 : ((twice part es).map (valK same p)).sum = (es.map (valK same p)).sum := by
    unfold twice
    rw [sum_flatMap, List.map_reverse, sum_perm (List.reverse_perm _)]
    refine sum_congr fun e _ => ?_
    simp only [List.map_cons, List.map_nil, List.sum_cons, List.sum_nil, Int.add_zero]
    have k1 : keyB same p ⟨e.b, e.a, e.w - part⟩ = keyB same p e := keyB_swap
    have k2 : keyB same p ⟨e.a, e.b, part⟩ = keyB same p e := (keyB_swap (w' := e.w) (w := 0)).symm.trans keyB_swap |>.symm.trans (by rfl) |> fun h => by first | exact h | rfl
    unfold valK
    rw [k1, k2]
    split
    · simp only; omega
    · rfl
  rw [h1, h2]
theorem aTo_swapped {same : List Int} {ps : List (Int × Int)} (p : Int × Int) : aTo (swapped ps) same (swapped ps).length p = aTo ps same ps.length p := by
  rw [aTo_all, aTo_all]
  have h1 : (swapped ps).any (keyA same p) = ps.any (keyA same p) := by
    unfold swapped
    rw [List.any_map, List.any_reverse]
    refine any_congr' fun e _ => ?_
    simp only [Function.comp]
    unfold keyA
    simp only
    rw [Int.min_comm, Int.max_comm]
    congr 1
    exact propext ⟨fun h => ⟨Ne.symm h.1, h.2⟩, fun h => ⟨Ne.symm h.1, h.2⟩⟩
  rw [h1]
theorem cluster_evidence {es : List E3} {same : List Int} {ps : List (Int × Int)} {part : Int} {a b : List Int} (hg : goodB es same ps = true) (hg' : goodB (twice part es) same (swapped ps) = true) (ha : ClusterP es same ps a) (hb : ClusterP (twice part es) same (swapped ps) b) : a = b := by
  have hW : wTo (twice part es) same (twice part es).length = wTo es same es.length := funext wTo_twice
  have hA : aTo (swapped ps) same (swapped ps).length = aTo ps same ps.length := funext aTo_swapped
  refine cluster_same (good_facts hg) (good_facts hg') (fun x y => by rw [hW]) ha hb fun ms hd _ _ _ c hc hs h _ => ?_
  rw [hW, hA]; exact h
theorem linkedB_all {m : Int} {es : List E3} : linkedB m es = true ↔ es.length ≤ 20000 ∧ ∀ e ∈ es, badE m e.a e.b e.w = false := by
  unfold linkedB
  rw [Bool.and_eq_true, decide_eq_true_iff, Bool.not_eq_true', List.any_eq_false]
  refine and_congr_right fun _ => ⟨fun h e he => ?_, fun h j hj => ?_⟩
  · obtain ⟨j, hj, e1⟩ := List.getElem_of_mem he
    have := h j (List.mem_range.2 hj)
    have ej : eth es j = e := by simp [eth, List.getD_eq_getElem?_getD, List.getElem?_eq_getElem hj, e1]
    rw [ej] at this
    simpa using this
  · have hj := List.mem_range.1 hj
    have ej : eth es j = es[j] := by simp [eth, List.getD_eq_getElem?_getD, List.getElem?_eq_getElem hj]
    rw [ej, h _ (List.getElem_mem hj)]
    simp
theorem pairedB_all {m : Int} {ps : List (Int × Int)} : pairedB m ps = true ↔ ∀ e ∈ ps, badP m e.1 e.2 = false := by
  unfold pairedB
  rw [Bool.not_eq_true', List.any_eq_false]
  refine ⟨fun h e he => ?_, fun h j hj => ?_⟩
  · obtain ⟨j, hj, e1⟩ := List.getElem_of_mem he
    have := h j (List.mem_range.2 hj)
    have ej : pth ps j = e := by simp [pth, List.getD_eq_getElem?_getD, List.getElem?_eq_getElem hj, e1]
    rw [ej] at this
    simpa using this
  · have hj := List.mem_range.1 hj
    have ej : pth ps j = ps[j] := by simp [pth, List.getD_eq_getElem?_getD, List.getElem?_eq_getElem hj]
    rw [ej, h _ (List.getElem_mem hj)]
    simp
theorem twice_len {part : Int} (es : List E3) : (twice part es).length = 2 * es.length := by
  unfold twice
  rw [List.length_flatMap]
  have : ∀ l : List E3, (l.map fun e => ([⟨e.b, e.a, e.w - part⟩, ⟨e.a, e.b, part⟩] : List E3).length).sum = 2 * l.length := fun l => by
    induction l with
    | nil => rfl
    | cons e l ih => rw [List.map_cons, List.sum_cons, ih]; simp; omega
  rw [this, List.length_reverse]
theorem good_twice {es : List E3} {same : List Int} {ps : List (Int × Int)} {part : Int} (hp : -32768 ≤ part ∧ part ≤ 32767) (hn : es.length ≤ 40) (hw : ∀ e ∈ es, -999960000 ≤ e.w ∧ e.w ≤ 999960000) : goodB (twice part es) same (swapped ps) = goodB es same ps := by
  have h1 : linkedB same.length (twice part es) = linkedB same.length es := by
    rw [Bool.eq_iff_iff, linkedB_all, linkedB_all, twice_len]
    constructor
    · rintro ⟨_, h⟩
      refine ⟨by omega, fun e he => ?_⟩
      have := h ⟨e.a, e.b, part⟩ (by unfold twice; rw [List.mem_flatMap]; exact ⟨e, List.mem_reverse.2 he, by simp⟩)
      have := hw e he
      unfold badE at *
      simp only [decide_eq_false_iff_not] at *
      omega
    · rintro ⟨_, h⟩
      refine ⟨by omega, fun e he => ?_⟩
      unfold twice at he
      rw [List.mem_flatMap] at he
      obtain ⟨e0, he0, he⟩ := he
      have he0 := List.mem_reverse.1 he0
      have h2 := h e0 he0
      have h3 := hw e0 he0
      unfold badE at h2 ⊢
      simp only [decide_eq_false_iff_not] at h2 ⊢
      simp only [List.mem_cons, List.not_mem_nil, or_false] at he
      rcases he with rfl | rfl
      · simp only; omega
      · simp only; omega
  have h2 : pairedB same.length (swapped ps) = pairedB same.length ps := by
    rw [Bool.eq_iff_iff, pairedB_all, pairedB_all]
    unfold swapped
    constructor
    · intro h e he
      have := h (e.2, e.1) (by rw [List.mem_map]; exact ⟨e, List.mem_reverse.2 he, rfl⟩)
      unfold badP at *
      simp only [decide_eq_false_iff_not] at *
      omega
    · intro h e he
      obtain ⟨e0, he0, rfl⟩ := List.mem_map.1 he
      have := h e0 (List.mem_reverse.1 he0)
      unfold badP at *
      simp only [decide_eq_false_iff_not] at *
      omega
  unfold goodB
  rw [h1, h2]
/-! THE LAW 'Further'. -/
theorem aTo_snoc {ps : List (Int × Int)} {same : List Int} {x y : Int} {p : Int × Int} : aTo (ps ++ [(x, y)]) same (ps ++ [(x, y)]).length p ≠ none ↔ aTo ps same ps.length p ≠ none ∨ (nth same x.toNat ≠ nth same y.toNat ∧ p = ordP (nth same x.toNat) (nth same y.toNat)) := by
  rw [aTo_all, aTo_all, List.any_append]
  simp only [List.any_cons, List.any_nil, Bool.or_false]
  have hk : keyA same p (x, y) = true ↔ (nth same x.toNat ≠ nth same y.toNat ∧ p = ordP (nth same x.toNat) (nth same y.toNat)) := by unfold keyA ordP; rw [decide_eq_true_iff]
  cases h1 : ps.any (keyA same p) <;> cases h2 : keyA same p (x, y)
  · simp only [h2, Bool.false_eq_true, false_iff] at hk; simp [hk]
  · simp only [h2, true_iff] at hk; simp [hk]
  · simp
  · simp
theorem cluster_further {es : List E3} {same : List Int} {ps : List (Int × Int)} {x y : Int} {a b : List Int} (hx : 0 ≤ x ∧ x < same.length) (hy : 0 ≤ y ∧ y < same.length) (hg : goodB es same ps = true) (hg' : goodB es same (ps ++ [(x, y)]) = true) (ha : ClusterP es same ps a) (hb : ClusterP es same (ps ++ [(x, y)]) b) (hne : nth a x.toNat ≠ nth a y.toNat) : a = b := by
  have F := good_facts hg
  have F' := good_facts hg'
  refine cluster_same F F' (fun _ _ => Iff.rfl) ha hb fun ms hd hm A he c hc hs h hv => ?_
  rw [he _ (by omega), he _ (by omega)] at hne
  have hcn : nth same x.toNat ≠ nth same y.toNat := fun e => hne (by rw [e])
  refine h.further (nodup_ixs _ _) F.av F'.av (a := nth same x.toNat) (b := nth same y.toNat) (fun p => ?_) hv (fun _ _ => hne) hcn (fun d hd' => ?_)
  · rw [aTo_snoc]
    exact or_congr_right ⟨fun h => h.2, fun h => ⟨hcn, h⟩⟩
  · obtain ⟨k1, k2, k3, k4⟩ := mem_cls.1 hd'
    have kc : Cls same same.length d := ⟨k1, k2, k4⟩
    obtain ⟨j1, j2, j3⟩ := A.cls d kc
    exact mem_cls.2 ⟨j1, j2, by rw [A.mark d kc, k3], j3⟩
theorem good_snoc {es : List E3} {same : List Int} {ps : List (Int × Int)} {x y : Int} (hx : 0 ≤ x ∧ x < same.length) (hy : 0 ≤ y ∧ y < same.length) (hg : goodB es same ps = true) : goodB es same (ps ++ [(x, y)]) = true := by
  obtain ⟨h1, h2, h3⟩ := good_split hg
  have : pairedB same.length (ps ++ [(x, y)]) = true := by
    rw [pairedB_all] at h3 ⊢
    intro e he
    rcases List.mem_append.1 he with he | he
    · exact h3 e he
    · rw [List.mem_singleton.1 he]
      unfold badP
      simp only [decide_eq_false_iff_not]
      omega
  unfold goodB
  rw [h1, h2, this]; rfl

end Go.Proofs.Ytiapdpbcnbgdmaa

set_option linter.unusedVariables false
set_option linter.unusedSimpArgs false
namespace Go.Proofs.Ytiapdpbcnbgdmaa
open Go.RowKit

/-! The reference's best: plain part. -/
def setTo (same : List Int) (c v : Int) (E : List Int) : Nat → List Int
  | 0 => E
  | k + 1 => if nth same k = c then (setTo same c v E k).set k v else setTo same c v E k
theorem setTo_len {same : List Int} {c v : Int} {E : List Int} : ∀ k, (setTo same c v E k).length = E.length
  | 0 => rfl
  | k + 1 => by rw [setTo]; split <;> simp [setTo_len]
theorem setTo_nth {same : List Int} {c v : Int} {E : List Int} {i : Nat} : ∀ k, k ≤ E.length → nth (setTo same c v E k) i = if i < k ∧ nth same i = c then v else nth E i
  | 0, _ => by simp [setTo]
  | k + 1, hk => by
    have ih := setTo_nth (same := same) (c := c) (v := v) (E := E) (i := i) k (by omega)
    rw [setTo]
    by_cases hh : nth same k = c
    · rw [if_pos hh, nth_set _ _ _ _ (by rw [setTo_len]; omega), ih]
      by_cases e : i = k
      · subst e; rw [if_pos rfl, if_pos ⟨by omega, hh⟩]
      · rw [if_neg e]
        by_cases h2 : i < k ∧ nth same i = c
        · rw [if_pos h2, if_pos ⟨by omega, h2.2⟩]
        · rw [if_neg h2, if_neg (fun h => h2 ⟨by omega, h.2⟩)]
    · rw [if_neg hh, ih]
      by_cases h2 : i < k ∧ nth same i = c
      · rw [if_pos h2, if_pos ⟨by omega, h2.2⟩]
      · rw [if_neg h2, if_neg (fun h => h2 ⟨by
          rcases Nat.lt_or_eq_of_le (Nat.le_of_lt_succ h.1) with h' | rfl
          · exact h'
          · exact absurd h.2 hh, h.2⟩)]
/-- The entities, when the first j classes have the heads hs. -/
def entN (same cl E0 hs : List Int) (m : Nat) : Nat → List Int
  | 0 => E0
  | j + 1 => setTo same (nth cl j) (nth hs j) (entN same cl E0 hs m j) m
section
variable {same cl E0 hs hs' : List Int} {m : Nat}
theorem entN_len : ∀ j, (entN same cl E0 hs m j).length = E0.length
  | 0 => rfl
  | j + 1 => by rw [entN, setTo_len, entN_len]
theorem entN_congr : ∀ j, (∀ i, i < j → nth hs i = nth hs' i) → entN same cl E0 hs m j = entN same cl E0 hs' m j
  | 0, _ => rfl
  | j + 1, h => by rw [entN, entN, h j (by omega), entN_congr j (fun i hi => h i (by omega))]
theorem entN_out (hl : E0.length = m) {i : Nat} (hi : i < m) : ∀ j, (∀ t, t < j → nth same i ≠ nth cl t) → nth (entN same cl E0 hs m j) i = nth E0 i
  | 0, _ => rfl
  | j + 1, h => by
    rw [entN, setTo_nth m (by rw [entN_len]; omega), if_neg (fun h' => h j (by omega) h'.2), entN_out hl hi j (fun t ht => h t (by omega))]
theorem entN_in (hl : E0.length = m) (hn : cl.Nodup) {i : Nat} (hi : i < m) : ∀ j, j ≤ cl.length → ∀ t, t < j → nth same i = nth cl t → nth (entN same cl E0 hs m j) i = nth hs t
  | 0, _, t, ht, _ => by omega
  | j + 1, hj, t, ht, e => by
    rw [entN, setTo_nth m (by rw [entN_len]; omega)]
    by_cases e2 : t = j
    · subst e2; rw [if_pos ⟨hi, e⟩]
    · rw [if_neg, entN_in hl hn hi j (by omega) t (by omega) e]
      rintro ⟨_, e3⟩
      exact e2 (nth_inj hn (by omega) (by omega) (e.symm.trans e3))
end
/-- the classes of a component, in order -/
structure ClOk (same : List Int) (m : Nat) (cl : List Int) : Prop where
  inc : cl.Pairwise (· < ·)
  cls : ∀ t, t < cl.length → Cls same m (nth cl t)
theorem ClOk.nodup {same : List Int} {m : Nat} {cl : List Int} (h : ClOk same m cl) : cl.Nodup := by
  rw [List.nodup_iff_pairwise_ne]
  exact h.inc.imp fun h => by omega
/-- The lists of entities are in the order of the lists of heads. -/
theorem entN_less {same cl E0 x y : List Int} {m a : Nat} (hv : ValidP same) (hsl : same.length = m) (hl : E0.length = m) (K : ClOk same m cl) (ha : a < cl.length) (hag : ∀ i, i < a → nth x i = nth y i) (hlt : nth y a < nth x a) : lessB (entN same cl E0 x m cl.length) (entN same cl E0 y m cl.length) = false := by
  obtain ⟨c0, c1, c2⟩ := K.cls a ha
  have hai : (nth cl a).toNat < m := by omega
  have hx := entN_in (hs := x) hl K.nodup hai cl.length (Nat.le_refl _) a ha c2
  have hy := entN_in (hs := y) hl K.nodup hai cl.length (Nat.le_refl _) a ha c2
  rw [lessB_at (nth cl a).toNat _ _ (fun k hk => ?_) (by rw [entN_len]; omega) (by rw [entN_len]; omega) (by rw [hx, hy]; omega), hx, hy]
  · simp only [decide_eq_false_iff_not]; omega
  · have hkm : k < m := by omega
    by_cases hin : ∃ t, t < cl.length ∧ nth same k = nth cl t
    · obtain ⟨t, ht, e⟩ := hin
      rw [entN_in hl K.nodup hkm _ (Nat.le_refl _) t ht e, entN_in hl K.nodup hkm _ (Nat.le_refl _) t ht e]
      obtain ⟨_, s2, _⟩ := hv.1 k (by omega)
      exact hag t ((lt_of_nth K.inc ht ha).1 (by omega))
    · have hno : ∀ t, t < cl.length → nth same k ≠ nth cl t := fun t ht e => hin ⟨t, ht, e⟩
      rw [entN_out hl hkm _ hno, entN_out hl hkm _ hno]
section
variable (F : List Int → Int)
def rstep : Option (List Int) → List Int → Option (List Int)
  | none, x => some x
  | some b, x => if F x < F b then some x else some b
def rbest (xs : List (List Int)) : Option (List Int) := xs.foldl (rstep F) none
def rmerge : Option (List Int) → Option (List Int) → Option (List Int)
  | none, r => r
  | some b, none => some b
  | some b, some x => if F x < F b then some x else some b
theorem rbest_snoc (xs : List (List Int)) (x : List Int) : rbest F (xs ++ [x]) = rstep F (rbest F xs) x := by
  unfold rbest; rw [List.foldl_append]; rfl
theorem rstep_merge (o r : Option (List Int)) (x : List Int) : rstep F (rmerge F o r) x = rmerge F o (rstep F r x) := by
  cases o with
  | none => rfl
  | some b =>
    cases r with
    | none => rfl
    | some c =>
      simp only [rmerge, rstep]
      by_cases h1 : F c < F b <;> by_cases h2 : F x < F c <;> simp only [h1, h2, if_true, if_false, rstep, rmerge]
      · rw [if_pos (by omega)]
      · rw [if_neg (by omega)]
theorem rbest_append (xs : List (List Int)) : ∀ (n : Nat) (ys : List (List Int)), ys.length = n → rbest F (xs ++ ys) = rmerge F (rbest F xs) (rbest F ys)
  | 0, ys, h => by
    obtain rfl := List.eq_nil_of_length_eq_zero h
    rw [List.append_nil]
    cases rbest F xs <;> rfl
  | n + 1, ys, h => by
    have hne : ys ≠ [] := by intro e; subst e; simp at h
    obtain ⟨ys', y, rfl⟩ : ∃ ys' y, ys = ys' ++ [y] := ⟨ys.dropLast, ys.getLast hne, (List.dropLast_concat_getLast hne).symm⟩
    rw [← List.append_assoc, rbest_snoc, rbest_snoc, rbest_append xs n ys' (by simpa using h), rstep_merge]
theorem rbest_app (xs ys : List (List Int)) : rbest F (xs ++ ys) = rmerge F (rbest F xs) (rbest F ys) := rbest_append F xs _ ys rfl
theorem rbest_mem {b : List Int} : ∀ (n : Nat) (xs : List (List Int)), xs.length = n → rbest F xs = some b → b ∈ xs
  | 0, xs, h, e => by
    obtain rfl := List.eq_nil_of_length_eq_zero h
    cases e
  | n + 1, xs, h, e => by
    have hne : xs ≠ [] := by intro e; subst e; simp at h
    obtain ⟨xs', x, rfl⟩ : ∃ ys' y, xs = ys' ++ [y] := ⟨xs.dropLast, xs.getLast hne, (List.dropLast_concat_getLast hne).symm⟩
    rw [rbest_snoc] at e
    cases hr : rbest F xs' with
    | none => rw [hr] at e; simp only [rstep, Option.some.injEq] at e; subst e; simp
    | some c =>
      rw [hr] at e
      simp only [rstep] at e
      split at e
      · cases e; simp
      · cases e
        exact List.mem_append_left _ (rbest_mem n xs' (by simpa using h) hr)
end
def hitB (E cl : List Int) (at_ : Nat) (c a b : Int) (t : Nat) : Bool := decide (nth E (nth cl t).toNat = c ∧ ((a = nth cl t ∧ b = nth cl at_) ∨ (b = nth cl t ∧ a = nth cl at_)))
def okIn (E cl : List Int) (at_ : Nat) (c a b : Int) : Nat → Bool
  | 0 => true
  | t + 1 => okIn E cl at_ c a b t && !hitB E cl at_ c a b t
def okTo (E same cl : List Int) (ps : List (Int × Int)) (at_ : Nat) (c : Int) : Nat → Bool
  | 0 => true
  | j + 1 => okTo E same cl ps at_ c j && okIn E cl at_ c (nth same (pth ps j).1.toNat) (nth same (pth ps j).2.toNat) at_
theorem okIn_iff {E cl : List Int} {at_ : Nat} {c a b : Int} : ∀ n, okIn E cl at_ c a b n = true ↔ ∀ t, t < n → hitB E cl at_ c a b t = false
  | 0 => by simp [okIn]
  | n + 1 => by
    rw [okIn, Bool.and_eq_true, okIn_iff n]
    constructor
    · rintro ⟨h1, h2⟩ t ht
      rcases Nat.lt_or_eq_of_le (Nat.le_of_lt_succ ht) with h' | rfl
      · exact h1 t h'
      · simpa using h2
    · intro h
      exact ⟨fun t ht => h t (by omega), by rw [h n (by omega)]; rfl⟩
theorem okTo_iff {E same cl : List Int} {ps : List (Int × Int)} {at_ : Nat} {c : Int} : ∀ n, okTo E same cl ps at_ c n = true ↔ ∀ j, j < n → ∀ t, t < at_ → hitB E cl at_ c (nth same (pth ps j).1.toNat) (nth same (pth ps j).2.toNat) t = false
  | 0 => by simp [okTo]
  | n + 1 => by
    rw [okTo, Bool.and_eq_true, okTo_iff n, okIn_iff]
    constructor
    · rintro ⟨h1, h2⟩ j hj
      rcases Nat.lt_or_eq_of_le (Nat.le_of_lt_succ hj) with h' | rfl
      · exact h1 j h'
      · exact h2
    · intro h
      exact ⟨fun j hj => h j (by omega), h n (by omega)⟩
/-- the reference's test is the program's -/
theorem okTo_clash {E same cl pfx : List Int} {ps : List (Int × Int)} {m : Nat} {c : Int} (K : ClOk same m cl) (hp : pfx.length < cl.length) (hE : ∀ t, t < pfx.length → nth E (nth cl t).toNat = nth pfx t) :
    okTo E same cl ps pfx.length c ps.length = !clashB (aTo ps same ps.length) cl (pfx ++ [c]) pfx.length := by
  rw [Bool.eq_iff_iff, okTo_iff, Bool.not_eq_true', ← Bool.not_eq_true, clashB_iff]
  constructor
  · rintro h ⟨t, ht, e1, e2⟩
    rw [nth_append_left ht, nth_append_last] at e1
    rw [aTo_all] at e2
    split at e2
    · rename_i hany
      obtain ⟨e, he, hk⟩ := List.any_eq_true.1 hany
      obtain ⟨j, hj, ee⟩ := List.getElem_of_mem he
      have ej : pth ps j = e := by simp [pth, List.getD_eq_getElem?_getD, List.getElem?_eq_getElem hj, ee]
      have h2 := h j hj t ht
      rw [ej] at h2
      unfold hitB at h2
      rw [decide_eq_false_iff_not] at h2
      unfold keyA at hk
      rw [decide_eq_true_iff] at hk
      obtain ⟨hne, hp'⟩ := hk
      refine h2 ⟨by rw [hE t ht]; exact e1, ?_⟩
      unfold apK at hp'
      have h3 := congrArg Prod.fst hp'
      have h4 := congrArg Prod.snd hp'
      simp only at h3 h4
      omega
    · cases e2
  · intro h j hj t ht
    unfold hitB
    rw [decide_eq_false_iff_not]
    rintro ⟨e1, e2⟩
    have hne : nth cl t ≠ nth cl pfx.length := fun e => by
      have := nth_inj K.nodup (by omega) hp e
      omega
    refine h ⟨t, ht, by rw [nth_append_left ht, nth_append_last, ← hE t ht]; exact e1, ?_⟩
    rw [aTo_all, if_pos]
    · rfl
    · refine List.any_eq_true.2 ⟨pth ps j, ?_, ?_⟩
      · have ej : pth ps j = ps[j] := by simp [pth, List.getD_eq_getElem?_getD, List.getElem?_eq_getElem hj]
        rw [ej]; exact List.getElem_mem hj
      · unfold keyA apK
        rw [decide_eq_true_iff]
        refine ⟨by omega, ?_⟩
        apply Prod.ext <;> simp only <;> omega
/-- heads of earlier classes -/
def PfxOk (cl pfx : List Int) : Prop := ∀ i, i < pfx.length → ∃ k, k ≤ i ∧ nth pfx i = nth cl k
theorem PfxOk.next {cl pfx : List Int} (h : PfxOk cl pfx) {k : Nat} (hk : k ≤ pfx.length) : PfxOk cl (pfx ++ [nth cl k]) := by
  intro i hi
  simp only [List.length_append, List.length_cons, List.length_nil] at hi
  by_cases e : i < pfx.length
  · rw [nth_append_left e]; exact h i e
  · obtain rfl : i = pfx.length := by omega
    exact ⟨k, hk, nth_append_last⟩
theorem PfxOk.noclash {AP : Int × Int → Option Bool} {cl pfx : List Int} (h : PfxOk cl pfx) (hn : cl.Nodup) (hp : pfx.length < cl.length) : clashB AP cl (pfx ++ [nth cl pfx.length]) pfx.length = false := by
  rw [← Bool.not_eq_true, clashB_iff]
  rintro ⟨k, hk, e, _⟩
  rw [nth_append_left hk, nth_append_last] at e
  obtain ⟨k', hk', e'⟩ := h k hk
  have := nth_inj hn (by omega) hp (e'.symm.trans e)
  omega
theorem mem_enumTo {AP : Int × Int → Option Bool} {cl pfx x : List Int} {d j : Nat} (h : x ∈ enumTo AP cl d pfx j) : ∃ k, k < j ∧ x ∈ enum AP cl d (pfx ++ [nth cl k]) := by
  unfold enumTo at h
  rw [List.mem_flatMap] at h
  obtain ⟨k, hk, h⟩ := h
  refine ⟨k, List.mem_range.1 hk, ?_⟩
  split at h
  · simp at h
  · split at h
    · simp at h
    · exact h
theorem enum_pfx {AP : Int × Int → Option Bool} {cl pfx x : List Int} {d : Nat} {v : Int} (h : x ∈ enum AP cl d (pfx ++ [v])) : (∀ i, i < pfx.length → nth x i = nth pfx i) ∧ nth x pfx.length = v ∧ x.length = pfx.length + 1 + d := by
  obtain ⟨h1, h2, _⟩ := (mem_enum d _ x).1 h
  simp only [List.length_append, List.length_cons, List.length_nil] at h1 h2
  have hpx : ∀ i, i ≤ pfx.length → nth x i = nth (pfx ++ [v]) i := fun i hi => by
    rw [← h2]
    unfold nth
    rw [List.getD_eq_getElem?_getD, List.getD_eq_getElem?_getD, List.getElem?_take_of_lt (by omega)]
  exact ⟨fun i hi => by rw [hpx i (by omega), nth_append_left hi], by rw [hpx _ (Nat.le_refl _), nth_append_last], by omega⟩
theorem enumTo_go {AP : Int × Int → Option Bool} {cl pfx : List Int} {d j : Nat} (h1 : ¬ (j < pfx.length ∧ nth pfx j ≠ nth cl j)) (h2 : ¬ clashB AP cl (pfx ++ [nth cl j]) pfx.length = true) : enumTo AP cl d pfx (j + 1) = enumTo AP cl d pfx j ++ enum AP cl d (pfx ++ [nth cl j]) := by
  unfold enumTo
  rw [List.range_succ, List.flatMap_append]
  simp [h1, h2]

end Go.Proofs.Ytiapdpbcnbgdmaa

set_option linter.unusedVariables false
set_option linter.unusedSimpArgs false
namespace Go.Proofs.Ytiapdpbcnbgdmaa
open Go.RowKit

/-! THE LAW 'Strong'. -/
theorem nth_zero_least {xs : List Int} {c : Int} (hp : xs.Pairwise (· < ·)) (hc : c ∈ xs) (hl : ∀ x ∈ xs, c ≤ x) : nth xs 0 = c := by
  obtain ⟨i, hi, e⟩ := nth_of_mem hc
  have h0 := hl _ (nth_mem (show 0 < xs.length by omega))
  rcases Nat.eq_zero_or_pos i with rfl | h
  · exact e
  · have := (lt_of_nth hp (show 0 < xs.length by omega) hi).2 h
    omega
theorem MarkOk.least {same ms : List Int} {m : Nat} {R : Int → Int → Prop} (K : MarkOk same m R ms) (hv : ValidP same) (hl : same.length = m) {c x : Int} (hx : 0 ≤ x ∧ x < m ∧ nth ms x.toNat = c) : c ≤ x := by
  have := K.le hv hl (i := x.toNat) (by omega)
  omega
theorem recs_zero {same ms : List Int} {m : Nat} {R : Int → Int → Prop} (K : MarkOk same m R ms) (hv : ValidP same) (hl : same.length = m) {c : Int} (hc : c ∈ comps ms m) : nth (recs ms m c) 0 = c := by
  obtain ⟨k0, k1, k2⟩ := mem_comps.1 hc
  exact nth_zero_least (pair_ixs _ _) (mem_recs.2 ⟨k0, k1, k2⟩) fun x hx => K.least hv hl (mem_recs.1 hx)
theorem cls_zero {same ms : List Int} {m : Nat} {R : Int → Int → Prop} (K : MarkOk same m R ms) (hv : ValidP same) (hl : same.length = m) {c : Int} (hc : c ∈ comps ms m) : c ∈ clsOf same ms m c ∧ nth (clsOf same ms m c) 0 = c := by
  obtain ⟨k0, k1, k2⟩ := mem_comps.1 hc
  have h1 := (K.2 c.toNat (by omega)).1
  rw [k2] at h1
  have hm : c ∈ clsOf same ms m c := mem_cls.2 ⟨k0, k1, k2, h1.2.2⟩
  refine ⟨hm, nth_zero_least (pair_ixs _ _) hm fun x hx => ?_⟩
  obtain ⟨a, b, d, _⟩ := mem_cls.1 hx
  exact K.least hv hl ⟨a, b, d⟩
section
variable {q : Nat} {WT : Int × Int → Option Int} {AP : Int × Int → Option Bool} {cl : List Int}
theorem kept_mono {f g : Int → Int} (h0 : ∀ p, 0 ≤ (WT p).getD 0) (h : ∀ a ∈ cl, ∀ b ∈ cl, f a = f b → g a = g b) : kept q WT cl f ≤ kept q WT cl g := by
  refine sum_le_sum fun p _ => ?_
  have := h0 p
  by_cases hf : p.1 ∈ cl ∧ p.2 ∈ cl ∧ f p.1 = f p.2
  · rw [if_pos hf, if_pos ⟨hf.1, hf.2.1, h _ hf.1 _ hf.2.1 hf.2.2⟩]; exact Int.le_refl _
  · rw [if_neg hf]
    split <;> omega
theorem enum_head (hA : ∀ p, AP p = none) : ∀ (d : Nat) (pfx : List Int), (∀ i, i < pfx.length → nth pfx i = nth cl 0) → ∃ rest, enum AP cl d pfx = (pfx ++ List.replicate d (nth cl 0)) :: rest
  | 0, pfx, _ => ⟨[], by simp [enum]⟩
  | d + 1, pfx, hp => by
    have hpx : ∀ i, i < (pfx ++ [nth cl 0]).length → nth (pfx ++ [nth cl 0]) i = nth cl 0 := fun i hi => by
      simp only [List.length_append, List.length_cons, List.length_nil] at hi
      rcases Nat.lt_or_eq_of_le (Nat.le_of_lt_succ hi) with h | rfl
      · rw [nth_append_left h]; exact hp i h
      · exact nth_append_last
    obtain ⟨rest, hr⟩ := enum_head hA d (pfx ++ [nth cl 0]) hpx
    rw [enum, List.range_succ_eq_map, List.flatMap_cons]
    have hn : ¬ (0 < pfx.length ∧ nth pfx 0 ≠ nth cl 0) := fun h => h.2 (hp 0 h.1)
    have hc : ¬ clashB AP cl (pfx ++ [nth cl 0]) pfx.length = true := fun h => by
      obtain ⟨k, _, _, h3⟩ := clashB_iff.1 h
      rw [hA] at h3
      simp at h3
    rw [if_neg hn, if_neg hc, hr]
    rw [List.cons_append, List.append_assoc]
    exact ⟨_, rfl⟩
theorem Solved.strong {hs : List Int} {f : Int → Int} {c0 : Int} (hp : cl.Pairwise (· < ·)) (hr : ∀ c ∈ cl, 0 ≤ c ∧ c < q) (hW : ∀ p, WT p ≠ none → p.1 < p.2) (h0 : ∀ p, 0 ≤ (WT p).getD 0) (hA : ∀ p, AP p = none) (hz : nth cl 0 = c0) (hc0 : c0 ∈ cl) (hleast : ∀ c ∈ cl, c0 ≤ c)
    (hconn : ∀ c ∈ cl, Conn (fun a b => Adj WT a b ∧ a ∈ cl ∧ b ∈ cl) c0 c) (hf : ∀ i, i < cl.length → f (nth cl i) = nth hs i) (h : Solved q WT AP cl hs) : ∀ c ∈ cl, f c = c0 := by
  have hn : cl.Nodup := by rw [List.nodup_iff_pairwise_ne]; exact hp.imp fun h => by omega
  rcases h with ⟨h1, l, h2⟩ | ⟨h1, g, h2, rfl⟩
  · obtain ⟨rest, hr'⟩ := enum_head (AP := AP) (cl := cl) hA cl.length [] (fun i hi => absurd hi (Nat.not_lt_zero _))
    have hall : ∀ x ∈ rest, keptTo WT cl x cl.length ≤ keptTo WT cl (List.replicate cl.length (nth cl 0)) cl.length := fun x hx => by
      have e1 := keptTo_eq (q := q) (x := List.replicate cl.length (nth cl 0)) (f := fun _ => nth cl 0) hp hr hW (fun i hi => by simp [nth, List.getD_eq_getElem?_getD, hi])
      -- x as a function on the classes
      have e2 := keptTo_eq (q := q) (x := x) (f := fun c => match (List.range cl.length).find? fun i => decide (nth cl i = c) with | some i => nth x i | none => c) hp hr hW (fun i hi => by
        have : (List.range cl.length).find? (fun i' => decide (nth cl i' = nth cl i)) = some i := by
          rw [List.find?_eq_some_iff_append]
          refine ⟨by simp, ?_⟩
          refine ⟨List.range i, (List.range (cl.length - (i + 1))).map (· + (i + 1)), ?_, fun j hj => ?_⟩
          · have e : cl.length = i + (1 + (cl.length - (i + 1))) := by omega
            conv => lhs; rw [e]
            rw [List.range_add, List.range_add]
            simp only [List.range_one, List.map_append, List.map_cons, List.map_nil, Nat.add_zero, List.map_map, List.singleton_append]
            congr 2
            apply List.map_congr_left
            intro a _
            simp only [Function.comp]
            omega
          · have hj := List.mem_range.1 hj
            simp only [Bool.not_eq_true', decide_eq_false_iff_not]
            intro e
            have := nth_inj hn (by omega) hi e
            omega
        rw [this])
      rw [e1, e2]
      exact kept_mono h0 fun _ _ _ _ _ => rfl
    have hb := bestOf_split (W := WT) (cl := cl) (n := cl.length) hall [] (fun x hx => by simp at hx)
    rw [List.nil_append] at hr'
    rw [hr'] at h2
    rw [List.nil_append] at hb
    rw [hb] at h2
    obtain rfl : List.replicate cl.length (nth cl 0) = hs := congrArg Prod.fst (Option.some.inj h2)
    intro c hc
    obtain ⟨i, hi, rfl⟩ := nth_of_mem hc
    rw [hf i hi, ← hz]
    simp [nth, List.getD_eq_getElem?_getD, hi]
  · have S := (h2.sol (SolOk.start (fun p hp => absurd (hA p) hp))).1
    have hfg : ∀ c ∈ cl, f c = g c := fun c hc => by
      obtain ⟨i, hi, rfl⟩ := nth_of_mem hc
      rw [hf i hi]
      simp [nth, List.getD_eq_getElem?_getD, hi]
    -- at the end nothing is left to unite
    have hend : ∀ {hd hd' : Int → Int}, GRun q WT AP cl hd hd' → ∀ p, Cand AP cl hd' p → WG q WT cl hd' p ≤ 0 := by
      intro hd hd' h
      induction h with
      | stop hs => exact hs
      | step _ _ ih => exact ih
    have hadj : ∀ a ∈ cl, ∀ b ∈ cl, Adj WT a b → g a = g b := fun a ha b hb hab => by
      refine Classical.byContradiction fun hne => ?_
      have hpos : ∀ u ∈ cl, ∀ v ∈ cl, ∀ x, 0 < x → WT (u, v) = some x → ordP (g u) (g v) = ordP (g a) (g b) → False := fun u hu v hv x hx hw he => by
        have hlt : (ordP (g a) (g b)).1 < (ordP (g a) (g b)).2 := by unfold ordP; simp only; omega
        have hin : (ordP (g a) (g b)).1 ∈ cl ∧ g (ordP (g a) (g b)).1 = (ordP (g a) (g b)).1 := by
          unfold ordP; simp only
          rcases Int.le_total (g a) (g b) with h | h
          · rw [Int.min_eq_left h]; exact ⟨S.inn a ha, S.idem a ha⟩
          · rw [Int.min_eq_right h]; exact ⟨S.inn b hb, S.idem b hb⟩
        have hin2 : (ordP (g a) (g b)).2 ∈ cl ∧ g (ordP (g a) (g b)).2 = (ordP (g a) (g b)).2 := by
          unfold ordP; simp only
          rcases Int.le_total (g a) (g b) with h | h
          · rw [Int.max_eq_right h]; exact ⟨S.inn b hb, S.idem b hb⟩
          · rw [Int.max_eq_left h]; exact ⟨S.inn a ha, S.idem a ha⟩
        have hle := hend h2 (ordP (g a) (g b)) ⟨hin.1, hin2.1, hin.2, hin2.2, hlt, fun ⟨p', h1, _⟩ => h1 (hA p')⟩
        have hge : x ≤ WG q WT cl g (ordP (g a) (g b)) := by
          have hg0 : ((u, v) : Int × Int) ∈ grid q := mem_grid.2 ⟨(hr u hu).1, (hr u hu).2, (hr v hv).1, (hr v hv).2⟩
          rw [← gsum_at hg0 x]
          refine sum_le_sum fun p _ => ?_
          by_cases e : p = (u, v)
          · rw [if_pos e, if_pos (by rw [e]; exact ⟨hu, hv, he⟩), e, hw]; exact Int.le_refl _
          · rw [if_neg e]
            have := h0 p
            split <;> omega
        omega
      obtain ⟨x, hx, hw | hw⟩ := hab
      · exact hpos a ha b hb x hx hw rfl
      · exact hpos b hb a ha x hx hw (by unfold ordP; rw [Int.min_comm, Int.max_comm])
    have hall : ∀ c, Conn (fun a b => Adj WT a b ∧ a ∈ cl ∧ b ∈ cl) c0 c → g c = g c0 := fun c hc => by
      induction hc with
      | refl => rfl
      | step _ h ih => rw [← ih]; exact (hadj _ h.2.1 _ h.2.2 h.1).symm
    have hg0 : g c0 = c0 := by
      have := S.le c0 hc0
      have := hleast _ (S.inn c0 hc0)
      omega
    intro c hc
    rw [hfg c hc, hall c (hconn c hc), hg0]
end
theorem cluster_strong {es : List E3} {same ent ms : List Int} (hg : goodB es same [] = true) (hw : ∀ e ∈ es, 0 ≤ e.w) (h : ClusterP es same [] ent) (hms : MarksOf es same ms) : ent.length = same.length ∧ ∀ i, i < same.length → nth ent i = nth ms i := by
  have F := good_facts hg
  obtain ⟨ms', hd, hm, hl, he, A, hs, _⟩ := cluster_facts F h
  have hmk : MarkOk same same.length (Adj (wTo es same es.length)) ms := hms
  have hmk' : MarkOk same same.length (Adj (wTo es same es.length)) ms' := hm
  obtain rfl := hmk.uniq hmk' Adj.symm'
  refine ⟨hl, fun i hi => ?_⟩
  have hc := same_cls F.v rfl (i := (i : Int)) (by omega) (by omega)
  rw [Int.toNat_natCast] at hc
  obtain ⟨h1, h2⟩ := hmk.mem Adj.symm' hc
  obtain ⟨x, hx, hxv⟩ := hs _ h1
  obtain ⟨z1, z2⟩ := cls_zero hmk F.v rfl h1
  have hA : ∀ p, aTo [] same 0 p = none := fun p => rfl
  have h0 : ∀ p, 0 ≤ (wTo es same es.length p).getD 0 := fun p => by
    rw [wTo_all]
    split
    · rw [Option.getD_some]
      have := sum_le_sum (l := es) (f := fun _ => 0) (g := valK same p) (fun e he => by
        unfold valK
        split
        · exact hw e he
        · exact Int.le_refl _)
      rw [sum_zero] at this
      exact this
    · exact Int.le_refl _
  have hkey := hx.strong (f := hd) (c0 := nth ms (nth same i).toNat) (pair_ixs _ _) cls_range F.wl h0 hA z2 z1 (fun c hc => by
    obtain ⟨a, b, d, _⟩ := mem_cls.1 hc
    exact hmk.least F.v rfl ⟨a, b, d⟩) (fun c hc => ?_) hxv _ h2
  · rw [he i hi, hkey, hmk.same_eq Adj.symm' F.v rfl hi]
  · -- the classes of a component are connected within it
    obtain ⟨a, b, d, e⟩ := mem_cls.1 hc
    have hcls : ∀ a b, Adj (wTo es same es.length) a b → Cls same same.length a ∧ Cls same same.length b := fun a b hab => by
      obtain ⟨x, _, h | h⟩ := hab
      · have := F.wc _ _ h; exact ⟨this.1, this.2.1⟩
      · have := F.wc _ _ h; exact ⟨this.2.1, this.1⟩
    have k2 := (hmk.2 c.toNat (by omega)).2.1
    rw [d, e] at k2
    have hcon : ∀ y, Conn (Adj (wTo es same es.length)) (nth ms (nth same i).toNat) y → y ∈ clsOf same ms same.length (nth ms (nth same i).toNat) ∧ Conn (fun a b => Adj (wTo es same es.length) a b ∧ a ∈ clsOf same ms same.length (nth ms (nth same i).toNat) ∧ b ∈ clsOf same ms same.length (nth ms (nth same i).toNat)) (nth ms (nth same i).toNat) y := fun y hy => by
      induction hy with
      | refl => exact ⟨z1, .refl⟩
      | @step u v hu huv ih =>
        obtain ⟨c1, c2⟩ := hcls _ _ huv
        have hmuv := hmk.adj c1 c2 huv
        have hv' : v ∈ clsOf same ms same.length (nth ms (nth same i).toNat) := mem_cls.2 ⟨c2.1, c2.2.1, by rw [← hmuv]; exact (mem_cls.1 ih.1).2.2.1, c2.2.2⟩
        exact ⟨hv', ih.2.step ⟨huv, ih.1, hv'⟩⟩
    exact (hcon c k2).2

end Go.Proofs.Ytiapdpbcnbgdmaa

set_option linter.unusedVariables false
set_option linter.unusedSimpArgs false
namespace Go.Proofs.Ytiapdpbcnbgdmaa
open Go.RowKit

/-! THE LAW 'Components'. -/
theorem sum_filter' {α : Type} (P : α → Bool) (f : α → Int) : ∀ l : List α, ((l.filter P).map f).sum = (l.map fun x => if P x = true then f x else 0).sum
  | [] => rfl
  | x :: l => by
    rw [List.filter_cons, List.map_cons, List.sum_cons, ← sum_filter' P f l]
    by_cases h : P x = true
    · rw [if_pos h, if_pos h, List.map_cons, List.sum_cons]
    · rw [if_neg h, if_neg h]; omega
theorem len_sum {α : Type} (P : α → Bool) : ∀ l : List α, ((l.filter P).length : Int) = (l.map fun x => if P x = true then (1 : Int) else 0).sum
  | [] => rfl
  | x :: l => by
    rw [List.filter_cons, List.map_cons, List.sum_cons, ← len_sum P l]
    by_cases h : P x = true
    · rw [if_pos h, if_pos h, List.length_cons]; omega
    · rw [if_neg h, if_neg h]; omega
theorem sum_ones : ∀ m : Nat, ((List.range m).map fun _ => (1 : Int)).sum = m
  | 0 => rfl
  | m + 1 => by rw [List.range_succ, List.map_append, List.sum_append, sum_ones m]; simp
def cntTo (ms : List Int) (m : Nat) : Nat → Int
  | 0 => 0
  | j + 1 => cntTo ms m j + (recs ms m (nth (comps ms m) j)).length
theorem cntTo_sum {ms : List Int} {m : Nat} : ∀ j, j ≤ (comps ms m).length → cntTo ms m j = (((comps ms m).take j).map fun c => ((recs ms m c).length : Int)).sum
  | 0, _ => rfl
  | j + 1, h => by
    rw [cntTo, cntTo_sum j (by omega), List.take_succ_eq_append_getElem (show j < (comps ms m).length by omega), List.map_append, List.sum_append]
    have e : nth (comps ms m) j = (comps ms m)[j] := by simp [nth, List.getD_eq_getElem?_getD, List.getElem?_eq_getElem (show j < (comps ms m).length by omega)]
    rw [e]
    simp
theorem MarkOk.count {same ms : List Int} {m : Nat} {R : Int → Int → Prop} (K : MarkOk same m R ms) (hs : ∀ a b, R a b → R b a) : cntTo ms m (comps ms m).length = m := by
  rw [cntTo_sum _ (Nat.le_refl _), List.take_length]
  have h1 : ((comps ms m).map fun c => ((recs ms m c).length : Int)).sum = ((comps ms m).map fun c => ((List.range m).map fun i => if nth ms i = c then (1 : Int) else 0).sum).sum := by
    refine sum_congr fun c _ => ?_
    unfold recs ixs
    rw [List.length_map, len_sum]
    refine sum_congr fun i _ => ?_
    simp only [decide_eq_true_eq]
  rw [h1, sum_swap, ← sum_ones m]
  refine sum_congr fun i hi => ?_
  have hi := List.mem_range.1 hi
  obtain ⟨k1, _⟩ := K.2 i hi
  have hm : nth ms i ∈ comps ms m := mem_comps.2 ⟨k1.1, k1.2.1, K.self hs hi⟩
  rw [sum_congr (g := fun c => if c = nth ms i then 1 else 0) (fun c _ => ?_), sum_single (show (comps ms m).Nodup from nodup_ixs _ _) hm]
  by_cases e : c = nth ms i
  · rw [if_pos e, if_pos e.symm]
  · rw [if_neg e, if_neg (Ne.symm e)]
theorem cntTo_le {ms : List Int} {m : Nat} : ∀ j, 0 ≤ cntTo ms m j
  | 0 => Int.le_refl _
  | j + 1 => by rw [cntTo]; have := cntTo_le (ms := ms) (m := m) j; omega
theorem cntTo_mono {ms : List Int} {m : Nat} (j : Nat) : ∀ d, cntTo ms m j ≤ cntTo ms m (j + d)
  | 0 => Int.le_refl _
  | d + 1 => by have := cntTo_mono (ms := ms) (m := m) j d; rw [show j + (d + 1) = (j + d) + 1 from rfl, cntTo]; omega
def keptE (ms : List Int) (e : E3) : Bool := decide (nth ms e.a.toNat = nth ms e.b.toNat)
theorem cluster_components {es : List E3} {same ms : List Int} {ps : List (Int × Int)} {a b : List Int} (hg : goodB es same ps = true) (hm : MarksOf es same ms) (ha : ClusterP es same ps a) :
    goodB (es.filter (keptE ms)) same ps = true ∧ ∀ b, ClusterP (es.filter (keptE ms)) same ps b → a = b := by
  have F := good_facts hg
  have hmk : MarkOk same same.length (Adj (wTo es same es.length)) ms := hm
  obtain ⟨g1, g2, g3⟩ := good_split hg
  have hrange : ∀ e ∈ es, 0 ≤ e.a ∧ e.a < same.length ∧ 0 ≤ e.b ∧ e.b < same.length := fun e he => by
    obtain ⟨j, hj, e1⟩ := List.getElem_of_mem he
    have := (F.e.1 j hj).1
    have ej : eth es j = e := by simp [eth, List.getD_eq_getElem?_getD, List.getElem?_eq_getElem hj, e1]
    rw [ej] at this
    exact this
  have hg' : goodB (es.filter (keptE ms)) same ps = true := by
    have : linkedB same.length (es.filter (keptE ms)) = true := by
      rw [linkedB_all] at g2 ⊢
      exact ⟨Nat.le_trans (List.length_filter_le _ _) g2.1, fun e he => g2.2 e (List.mem_filter.1 he).1⟩
    unfold goodB
    rw [g1, this, g3]; rfl
  have hkey : ∀ e ∈ es, ∀ p, keyB same p e = true → (keptE ms e = true ↔ nth ms p.1.toNat = nth ms p.2.toNat) := fun e he p hk => by
    obtain ⟨r1, r2, r3, r4⟩ := hrange e he
    unfold keyB at hk
    rw [decide_eq_true_iff] at hk
    obtain ⟨_, rfl⟩ := hk
    have ea := hmk.same_eq Adj.symm' F.v rfl (i := e.a.toNat) (by omega)
    have eb := hmk.same_eq Adj.symm' F.v rfl (i := e.b.toNat) (by omega)
    unfold keptE
    rw [decide_eq_true_iff, ← ea, ← eb]
    simp only
    rcases Int.le_total (nth same e.a.toNat) (nth same e.b.toNat) with h | h
    · rw [Int.min_eq_left h, Int.max_eq_right h]
    · rw [Int.min_eq_right h, Int.max_eq_left h]; exact eq_comm
  have hW : ∀ p, nth ms p.1.toNat = nth ms p.2.toNat → wTo (es.filter (keptE ms)) same (es.filter (keptE ms)).length p = wTo es same es.length p := fun p hp => by
    rw [wTo_all, wTo_all]
    have h1 : (es.filter (keptE ms)).any (keyB same p) = es.any (keyB same p) := by
      rw [Bool.eq_iff_iff, List.any_eq_true, List.any_eq_true]
      constructor
      · rintro ⟨e, he, hk⟩; exact ⟨e, (List.mem_filter.1 he).1, hk⟩
      · rintro ⟨e, he, hk⟩; exact ⟨e, List.mem_filter.2 ⟨he, (hkey e he p hk).2 hp⟩, hk⟩
    have h2 : ((es.filter (keptE ms)).map (valK same p)).sum = (es.map (valK same p)).sum := by
      rw [sum_filter']
      refine sum_congr fun e he => ?_
      by_cases hk : keyB same p e = true
      · rw [if_pos ((hkey e he p hk).2 hp)]
      · have : valK same p e = 0 := by unfold valK; rw [if_neg hk]
        rw [this, ite_self]
    rw [h1, h2]
  have hN : ∀ p, nth ms p.1.toNat ≠ nth ms p.2.toNat → wTo (es.filter (keptE ms)) same (es.filter (keptE ms)).length p = none := fun p hp => by
    rw [wTo_all, if_neg]
    rw [List.any_eq_true]
    rintro ⟨e, he, hk⟩
    obtain ⟨he, hke⟩ := List.mem_filter.1 he
    exact hp ((hkey e he p hk).1 hke)
  refine ⟨hg', fun b hb => ?_⟩
  refine cluster_same F (good_facts hg') (fun x y => ?_) ha hb fun ms' hd hm' A he c hc hs h hv => ?_
  · constructor
    · intro hxy
      obtain ⟨z, hz, h⟩ := hxy
      have hms : nth ms x.toNat = nth ms y.toNat := by
        rcases h with h | h
        · have := F.wc _ _ h; exact hmk.adj this.1 this.2.1 ⟨z, hz, .inl h⟩
        · have := F.wc _ _ h; exact hmk.adj this.2.1 this.1 ⟨z, hz, .inr h⟩
      refine ⟨z, hz, ?_⟩
      rw [hW (x, y) hms, hW (y, x) hms.symm]; exact h
    · rintro ⟨z, hz, h⟩
      refine ⟨z, hz, ?_⟩
      rcases h with h | h
      · left
        by_cases hms : nth ms x.toNat = nth ms y.toNat
        · rw [← hW (x, y) hms]; exact h
        · rw [hN (x, y) hms] at h; cases h
      · right
        by_cases hms : nth ms y.toNat = nth ms x.toNat
        · rw [← hW (y, x) hms]; exact h
        · rw [hN (y, x) hms] at h; cases h
  · have hmk' : MarkOk same same.length (Adj (wTo es same es.length)) ms' := hm'
    obtain rfl := hmk.uniq hmk' Adj.symm'
    refine h.weights fun a ha b hb => ?_
    rw [hW (a, b) ((mem_cls.1 ha).2.2.1.trans (mem_cls.1 hb).2.2.1.symm)]
/-- the number of a record's component -/
def cidx (ms : List Int) (m x : Nat) : Nat := (comps ms m).idxOf (nth ms x)
theorem cidx_spec {same ms : List Int} {m : Nat} {R : Int → Int → Prop} (K : MarkOk same m R ms) (hs : ∀ a b, R a b → R b a) {x : Nat} (hx : x < m) : cidx ms m x < (comps ms m).length ∧ nth (comps ms m) (cidx ms m x) = nth ms x := by
  obtain ⟨k1, _⟩ := K.2 x hx
  have hm : nth ms x ∈ comps ms m := mem_comps.2 ⟨k1.1, k1.2.1, K.self hs hx⟩
  have hlt : cidx ms m x < (comps ms m).length := List.idxOf_lt_length_of_mem hm
  refine ⟨hlt, ?_⟩
  unfold nth
  rw [List.getD_eq_getElem?_getD, List.getElem?_eq_getElem hlt]
  exact List.getElem_idxOf hlt
theorem cidx_of {same ms : List Int} {m : Nat} {R : Int → Int → Prop} (K : MarkOk same m R ms) (hs : ∀ a b, R a b → R b a) {x j : Nat} (hx : x < m) (hj : j < (comps ms m).length) (h : nth ms x = nth (comps ms m) j) : cidx ms m x = j := by
  obtain ⟨h1, h2⟩ := cidx_spec K hs hx
  exact nth_inj (nodup_ixs _ _) h1 hj (h2.trans h)
theorem cidx_inj {same ms : List Int} {m : Nat} {R : Int → Int → Prop} (K : MarkOk same m R ms) (hs : ∀ a b, R a b → R b a) {x y : Nat} (hx : x < m) (hy : y < m) : cidx ms m x = cidx ms m y ↔ nth ms x = nth ms y := by
  constructor
  · intro h
    rw [← (cidx_spec K hs hx).2, ← (cidx_spec K hs hy).2, h]
  · intro h; unfold cidx; rw [h]
/-- the marks of the law, before record i of component j -/
structure LMark (ms : List Int) (m j i : Nat) (M : List Int) : Prop where
  len : M.length = m
  val : ∀ x, x < m → nth M x = if cidx ms m x < j ∨ (cidx ms m x = j ∧ (x : Int) ∈ (recs ms m (nth (comps ms m) j)).take i) then (cidx ms m x : Int) + 1 else 0
theorem LMark.start (ms : List Int) (m : Nat) : LMark ms m 0 0 (List.replicate m 0) := by
  refine ⟨by simp, fun x hx => ?_⟩
  rw [if_neg (by simp)]
  simp [nth, List.getD_eq_getElem?_getD, hx]
theorem LMark.next {same ms : List Int} {m j i : Nat} {M : List Int} {R : Int → Int → Prop} (K : MarkOk same m R ms) (hs : ∀ a b, R a b → R b a) (h : LMark ms m j i M) (hj : j < (comps ms m).length) (hi : i < (recs ms m (nth (comps ms m) j)).length) :
    nth M (nth (recs ms m (nth (comps ms m) j)) i).toNat = 0 ∧ LMark ms m j (i + 1) (M.set (nth (recs ms m (nth (comps ms m) j)) i).toNat ((j : Int) + 1)) := by
  obtain ⟨rc, hrc⟩ : ∃ rc, recs ms m (nth (comps ms m) j) = rc := ⟨_, rfl⟩
  have hval := h.val
  rw [hrc] at hi hval ⊢
  have hn : rc.Nodup := by rw [← hrc]; exact nodup_ixs _ _
  have hx := nth_mem hi
  have hx' : nth rc i ∈ recs ms m (nth (comps ms m) j) := by rw [hrc]; exact hx
  obtain ⟨x0, x1, x2⟩ := mem_recs.1 hx'
  have hxn : (((nth rc i).toNat : Nat) : Int) = nth rc i := Int.toNat_of_nonneg x0
  have hxl : (nth rc i).toNat < m := by omega
  have hc := cidx_of K hs hxl hj x2
  have htk : rc.take (i + 1) = rc.take i ++ [nth rc i] := by
    rw [List.take_succ_eq_append_getElem hi]
    simp [nth, List.getD_eq_getElem?_getD, List.getElem?_eq_getElem hi]
  have hnot : nth rc i ∉ rc.take i := fun hmem => by
    obtain ⟨k, hk, e⟩ := nth_of_mem hmem
    have hk' : k < i := by rw [List.length_take] at hk; omega
    rw [nth_take hk'] at e
    have := nth_inj hn (by omega) hi e
    omega
  constructor
  · rw [hval _ hxl, hc, if_neg (by
      rintro (h' | ⟨_, h'⟩)
      · omega
      · rw [hxn] at h'; exact hnot h')]
  · refine ⟨by rw [List.length_set, h.len], fun y hy => ?_⟩
    rw [nth_set _ _ _ _ (by rw [h.len]; exact hxl), hrc, htk]
    by_cases e : y = (nth rc i).toNat
    · rw [if_pos e, if_pos (.inr ⟨by rw [e]; exact hc, by rw [e, hxn]; simp⟩), e, hc]
    · rw [if_neg e, hval y hy]
      have : (y : Int) ∈ rc.take i ++ [nth rc i] ↔ (y : Int) ∈ rc.take i := by
        rw [List.mem_append, List.mem_singleton]
        exact ⟨fun h => h.elim id (fun h => absurd (by omega) e), .inl⟩
      by_cases hq : cidx ms m y < j ∨ (cidx ms m y = j ∧ (y : Int) ∈ rc.take i)
      · rw [if_pos hq, if_pos (hq.imp id fun h => ⟨h.1, this.2 h.2⟩)]
      · rw [if_neg hq, if_neg (fun h => hq (h.imp id fun h => ⟨h.1, this.1 h.2⟩))]
theorem LMark.row {same ms : List Int} {m j : Nat} {M : List Int} {R : Int → Int → Prop} (K : MarkOk same m R ms) (hs : ∀ a b, R a b → R b a) (hj : j < (comps ms m).length) (h : LMark ms m j (recs ms m (nth (comps ms m) j)).length M) : LMark ms m (j + 1) 0 M := by
  refine ⟨h.len, fun x hx => ?_⟩
  rw [h.val x hx, List.take_length, List.take_zero]
  obtain ⟨h1, h2⟩ := cidx_spec K hs hx
  by_cases e : cidx ms m x = j
  · have hm : (x : Int) ∈ recs ms m (nth (comps ms m) j) := mem_recs.2 ⟨by omega, by omega, by rw [Int.toNat_natCast, ← h2, e]⟩
    rw [if_pos (.inr ⟨e, hm⟩), if_pos (.inl (by omega))]
  · by_cases hlt : cidx ms m x < j
    · rw [if_pos (.inl hlt), if_pos (.inl (by omega))]
    · rw [if_neg (by rintro (h' | ⟨h', _⟩) <;> omega), if_neg (by rintro (h' | ⟨_, h'⟩); omega; simp at h')]
theorem LMark.done {same ms : List Int} {m : Nat} {M : List Int} {R : Int → Int → Prop} (K : MarkOk same m R ms) (hs : ∀ a b, R a b → R b a) (h : LMark ms m (comps ms m).length 0 M) {x y : Nat} (hx : x < m) (hy : y < m) : (nth M x = nth M y) ↔ nth ms x = nth ms y := by
  have e1 := (cidx_spec K hs hx).1
  have e2 := (cidx_spec K hs hy).1
  rw [h.val x hx, h.val y hy, if_pos (.inl e1), if_pos (.inl e2), ← cidx_inj K hs hx hy]
  omega

end Go.Proofs.Ytiapdpbcnbgdmaa

set_option linter.unusedVariables false
set_option linter.unusedSimpArgs false
namespace Go.Proofs.Ytiapdpbcnbgdmaa
open Go.RowKit

/-! THE LAW 'Least'. -/
section
variable {q : Nat} {WT : Int × Int → Option Int} {AP : Int × Int → Option Bool} {cl : List Int}
theorem nth_get {xs : List Int} {k : Nat} (h : k < xs.length) : nth xs k = xs[k] := by simp [nth, List.getD_eq_getElem?_getD, List.getElem?_eq_getElem h]
def firstOf (cl : List Int) (f : Int → Int) (c : Int) : Nat := cl.findIdx fun d => decide (f d = f c)
theorem firstOf_spec {f : Int → Int} {i : Nat} (hi : i < cl.length) : firstOf cl f (nth cl i) ≤ i ∧ f (nth cl (firstOf cl f (nth cl i))) = f (nth cl i) := by
  have hex : firstOf cl f (nth cl i) < cl.length := List.findIdx_lt_length_of_exists ⟨nth cl i, nth_mem hi, by simp⟩
  have hp : decide (f cl[firstOf cl f (nth cl i)] = f (nth cl i)) = true := List.findIdx_getElem (w := hex)
  have e1 := nth_get hex
  refine ⟨?_, ?_⟩
  · rcases Nat.lt_or_ge i (firstOf cl f (nth cl i)) with h | h
    · have := List.not_of_lt_findIdx h
      have e2 := nth_get hi
      rw [← e2] at this
      simp at this
    · exact h
  · rw [e1]; simpa using hp
theorem firstOf_congr {f : Int → Int} {c d : Int} (h : f c = f d) : firstOf cl f c = firstOf cl f d := by unfold firstOf; rw [h]
theorem Solved.least {hs : List Int} {hd f : Int → Int} (h8 : cl.length ≤ 8) (hp : cl.Pairwise (· < ·)) (hr : ∀ c ∈ cl, 0 ≤ c ∧ c < q) (hW : ∀ p, WT p ≠ none → p.1 < p.2) (h : Solved q WT AP cl hs) (hf : ∀ i, i < cl.length → hd (nth cl i) = nth hs i)
    (hap : ∀ a ∈ cl, ∀ b ∈ cl, a < b → (AP (a, b)).getD false = true → f a ≠ f b) : kept q WT cl f ≤ kept q WT cl hd := by
  have hn : cl.Nodup := by rw [List.nodup_iff_pairwise_ne]; exact hp.imp fun h => by omega
  rcases h with ⟨_, l, h⟩ | ⟨h, _⟩
  · obtain ⟨x, hx⟩ : ∃ x, x = cl.map fun c => nth cl (firstOf cl f c) := ⟨_, rfl⟩
    have hxl : x.length = cl.length := by rw [hx, List.length_map]
    have hxi : ∀ i, i < cl.length → nth x i = nth cl (firstOf cl f (nth cl i)) := fun i hi => by
      rw [hx]; simp [nth, List.getD_eq_getElem?_getD, List.getElem?_eq_getElem hi]
    have hmem : x ∈ enum AP cl cl.length [] := by
      rw [mem_enum]
      refine ⟨by simpa using hxl, by simp, fun i _ hi => ?_⟩
      have hi : i < cl.length := by omega
      obtain ⟨k1, k2⟩ := firstOf_spec (f := f) hi
      refine ⟨⟨_, k1, hxi i hi, fun hlt => ?_⟩, ?_⟩
      · rw [hxi _ (by omega), firstOf_congr k2]
      · rw [← Bool.not_eq_true]
        intro hc
        obtain ⟨k, e1, e2, e3⟩ := clashB_iff.1 hc
        rw [hxi k (by omega), hxi i hi] at e2
        have e4 := (firstOf_spec (f := f) (show k < cl.length by omega)).2
        rw [e2, k2] at e4
        have hlt := (lt_of_nth hp (show k < cl.length by omega) hi).2 e1
        have ek : apK cl k i = (nth cl k, nth cl i) := by unfold apK; apply Prod.ext <;> simp only <;> omega
        rw [ek] at e3
        exact hap _ (nth_mem (by omega)) _ (nth_mem hi) hlt e3 e4.symm
    obtain ⟨pre, post, e, hb1, hb2⟩ := bestOf_parts _ h
    have hle : keptTo WT cl x cl.length ≤ keptTo WT cl hs cl.length := by
      rw [e] at hmem
      rcases List.mem_append.1 hmem with hm | hm
      · exact Int.le_of_lt (hb1 x hm)
      · rcases List.mem_cons.1 hm with rfl | hm
        · exact Int.le_refl _
        · exact hb2 x hm
    rw [keptTo_eq (f := fun c => nth cl (firstOf cl f c)) hp hr hW (fun i hi => (hxi i hi).symm), keptTo_eq hp hr hW hf] at hle
    rw [kept_congr (g := fun c => nth cl (firstOf cl f c)) (fun c hc d hd' => ?_)]
    · exact hle
    · obtain ⟨i, hi, rfl⟩ := nth_of_mem hc
      obtain ⟨j, hj, rfl⟩ := nth_of_mem hd'
      constructor
      · intro h'; rw [firstOf_congr h']
      · intro h'
        rw [← (firstOf_spec (f := f) hi).2, ← (firstOf_spec (f := f) hj).2, h']
  · omega
end
theorem cluster_least {es : List E3} {same ent entity : List Int} {ps : List (Int × Int)} (hg : goodB es same ps = true) (h : ClusterP es same ps ent) (hal : allowedB same ps entity = true) (hfew : ∀ ms, MarksOf es same ms → ∀ c ∈ comps ms same.length, (clsOf same ms same.length c).length ≤ 8) :
    costTo es ent es.length ≤ costTo es entity es.length := by
  have F := good_facts hg
  obtain ⟨ms, hd, hm, hl, he, A, hs, _⟩ := cluster_facts F h
  have hmk : MarkOk same same.length (Adj (wTo es same es.length)) ms := hm
  unfold allowedB at hal
  simp only [Bool.and_eq_true, decide_eq_true_eq, Bool.not_eq_true'] at hal
  obtain ⟨_, _, hle, _, hsm, hcl⟩ := hal
  have hcls : ∀ i, i < same.length → Cls same same.length (nth same i) := fun i hi => by
    have := same_cls F.v rfl (i := (i : Int)) (by omega) (by omega)
    simpa using this
  have hf : ∀ i, i < same.length → nth entity i = (fun c : Int => nth entity c.toNat) (nth same i) := fun i hi => by
    unfold sameB at hsm
    rw [List.all_eq_true] at hsm
    simpa using hsm i (List.mem_range.2 hi)
  have hap : ∀ a b, (aTo ps same ps.length (a, b)).getD false = true → nth entity a.toNat ≠ nth entity b.toNat := fun a b hab => by
    rw [aTo_all] at hab
    split at hab
    · rename_i hany
      obtain ⟨e, he', hk⟩ := List.any_eq_true.1 hany
      obtain ⟨j, hj, e1⟩ := List.getElem_of_mem he'
      have ej : pth ps j = e := by simp [pth, List.getD_eq_getElem?_getD, List.getElem?_eq_getElem hj, e1]
      rw [List.any_eq_false] at hcl
      have hcj := hcl j (List.mem_range.2 hj)
      obtain ⟨q1, q2, q3, q4⟩ := F.p j hj
      rw [ej] at hcj q1 q2 q3 q4
      unfold keyA at hk
      rw [decide_eq_true_iff] at hk
      obtain ⟨hne, hkey⟩ := hk
      unfold clashP at hcj
      rw [decide_eq_true_iff] at hcj
      have hne2 : nth entity e.1.toNat ≠ nth entity e.2.toNat := fun h => hcj ⟨hne, h⟩
      rw [hf _ (by omega), hf _ (by omega)] at hne2
      simp only at hne2
      have h1 := congrArg Prod.fst hkey
      have h2 := congrArg Prod.snd hkey
      simp only at h1 h2
      rcases Int.le_total (nth same e.1.toNat) (nth same e.2.toNat) with h' | h'
      · rw [Int.min_eq_left h'] at h1
        rw [Int.max_eq_right h'] at h2
        rw [h1, h2]; exact hne2
      · rw [Int.min_eq_right h'] at h1
        rw [Int.max_eq_left h'] at h2
        rw [h1, h2]; exact fun h => hne2 h.symm
    · simp at hab
  rw [cost_gk F.v rfl hl F.e he, cost_gk (f := fun c : Int => nth entity c.toNat) F.v rfl hle F.e hf]
  have h1 : gk same.length (wTo es same es.length) (fun c => nth entity c.toNat) ≤ gk same.length (wTo es same es.length) hd := by
    rw [gk_comps hmk F.wc, gk_comps hmk F.wc]
    have hc0 : (gsum same.length fun p => if hd p.1 = hd p.2 ∧ nth ms p.1.toNat ≠ nth ms p.2.toNat then (wTo es same es.length p).getD 0 else 0) = 0 := by
      unfold gsum
      rw [sum_congr (g := fun _ => 0) (fun p _ => ?_), sum_zero]
      by_cases e : hd p.1 = hd p.2 ∧ nth ms p.1.toNat ≠ nth ms p.2.toNat
      · rw [if_pos e]
        cases hw : wTo es same es.length p with
        | none => rfl
        | some x =>
          obtain ⟨c1, c2, _⟩ := F.wc p x hw
          have := A.mark _ c1
          rw [e.1, A.mark _ c2] at this
          exact absurd this.symm e.2
      · rw [if_neg e]
    rw [hc0]
    have hx := cross_le (f := fun c : Int => nth entity c.toNat) hmk F.wc
    have hsum := sum_le_sum (l := comps ms same.length) (f := fun c => kept same.length (wTo es same es.length) (clsOf same ms same.length c) fun c => nth entity c.toNat) (g := fun c => kept same.length (wTo es same es.length) (clsOf same ms same.length c) hd) (fun c hc => by
      obtain ⟨x, hx1, hx2⟩ := hs c hc
      exact hx1.least (hfew ms hm c hc) (pair_ixs _ _) cls_range F.wl hx2 (fun a ha b hb hlt hab => hap a b hab))
    omega
  omega

end Go.Proofs.Ytiapdpbcnbgdmaa

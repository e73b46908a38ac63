import Derived.Test.YtiapdpbcnbgdmaaCu
set_option linter.unusedVariables false
set_option linter.unusedSimpArgs false
namespace Go.Proofs.Ytiapdpbcnbgdmaa
open Go.RowKit

/-! What the solvers' answers are: allowed, and how much they keep together. -/
structure SolOk (AP : Int × Int → Option Bool) (cl : List Int) (f : Int → Int) : Prop where
  inn : ∀ c ∈ cl, f c ∈ cl
  le : ∀ c ∈ cl, f c ≤ c
  idem : ∀ c ∈ cl, f (f c) = f c
  ap : ∀ a ∈ cl, ∀ b ∈ cl, a < b → AP (a, b) ≠ none → f a ≠ f b
def kept (q : Nat) (W : Int × Int → Option Int) (cl : List Int) (f : Int → Int) : Int := gsum q fun p => if p.1 ∈ cl ∧ p.2 ∈ cl ∧ f p.1 = f p.2 then (W p).getD 0 else 0
theorem kept_congr {q : Nat} {W : Int × Int → Option Int} {cl : List Int} {f g : Int → Int} (h : ∀ c ∈ cl, ∀ d ∈ cl, (f c = f d ↔ g c = g d)) : kept q W cl f = kept q W cl g := by
  refine sum_congr fun p _ => ?_
  by_cases h1 : p.1 ∈ cl
  · by_cases h2 : p.2 ∈ cl
    · simp only [h1, h2, true_and, h p.1 h1 p.2 h2]
    · simp only [h2, false_and, and_false]
  · simp only [h1, false_and]
theorem kept_id {q : Nat} {W : Int × Int → Option Int} {cl : List Int} {f : Int → Int} (hW : ∀ p, W p ≠ none → p.1 < p.2) (h : ∀ c ∈ cl, ∀ d ∈ cl, f c = f d → c = d) : kept q W cl f = 0 := by
  unfold kept gsum
  rw [sum_congr (g := fun _ => 0) (fun p _ => ?_), sum_zero]
  by_cases hc : p.1 ∈ cl ∧ p.2 ∈ cl ∧ f p.1 = f p.2
  · rw [if_pos hc]
    have e := h _ hc.1 _ hc.2.1 hc.2.2
    cases hw : W p with
    | none => rfl
    | some x => have := hW p (by rw [hw]; simp); omega
  · rw [if_neg hc]
def prs (cl : List Int) : Nat → List (Int × Int)
  | 0 => []
  | i + 1 => prs cl i ++ (List.range i).map fun k => (nth cl k, nth cl i)
theorem mem_prs {cl : List Int} {p : Int × Int} : ∀ n, p ∈ prs cl n ↔ ∃ k i, k < i ∧ i < n ∧ p = (nth cl k, nth cl i)
  | 0 => by simp [prs]
  | n + 1 => by
    rw [prs, List.mem_append, mem_prs n, List.mem_map]
    constructor
    · rintro (⟨k, i, h1, h2, h3⟩ | ⟨k, h1, h2⟩)
      · exact ⟨k, i, h1, by omega, h3⟩
      · exact ⟨k, n, List.mem_range.1 h1, by omega, h2.symm⟩
    · rintro ⟨k, i, h1, h2, h3⟩
      rcases Nat.lt_or_eq_of_le (Nat.le_of_lt_succ h2) with h | rfl
      · exact .inl ⟨k, i, h1, h, h3⟩
      · exact .inr ⟨k, List.mem_range.2 h1, h3.symm⟩
theorem nodup_prs {cl : List Int} (hn : cl.Nodup) : ∀ n, n ≤ cl.length → (prs cl n).Nodup
  | 0, _ => List.nodup_nil
  | n + 1, h => by
    rw [prs, List.nodup_append]
    refine ⟨nodup_prs hn n (by omega), ?_, ?_⟩
    · rw [List.nodup_iff_pairwise_ne, List.pairwise_map]
      refine (List.nodup_iff_pairwise_ne.1 (List.nodup_range (n := n))).imp_of_mem ?_
      intro a b ha hb hab e
      have := List.mem_range.1 ha
      have := List.mem_range.1 hb
      exact hab (nth_inj hn (by omega) (by omega) (congrArg Prod.fst e))
    · intro a ha b hb e
      subst e
      obtain ⟨k, i, h1, h2, rfl⟩ := (mem_prs n).1 ha
      obtain ⟨k', h3, h4⟩ := List.mem_map.1 hb
      have := nth_inj hn (show n < cl.length by omega) (show i < cl.length by omega) (congrArg Prod.snd h4)
      omega
theorem keptIn_sum {W : Int × Int → Option Int} {cl x : List Int} {i : Nat} : ∀ k, keptIn W cl x i k = ((List.range k).map fun k => if nth x i = nth x k then (W (nth cl k, nth cl i)).getD 0 else 0).sum
  | 0 => rfl
  | k + 1 => by
    rw [keptIn, keptIn_sum k, List.range_succ, List.map_append, List.sum_append]
    simp only [List.map_cons, List.map_nil, List.sum_cons, List.sum_nil, Int.add_zero]
    split <;> omega
theorem keptTo_eq {q : Nat} {W : Int × Int → Option Int} {cl x : List Int} {f : Int → Int} (hp : cl.Pairwise (· < ·)) (hr : ∀ c ∈ cl, 0 ≤ c ∧ c < q) (hW : ∀ p, W p ≠ none → p.1 < p.2) (hf : ∀ i, i < cl.length → f (nth cl i) = nth x i) : keptTo W cl x cl.length = kept q W cl f := by
  have hn : cl.Nodup := by rw [List.nodup_iff_pairwise_ne]; exact hp.imp fun h => by omega
  have key : ∀ n, n ≤ cl.length → keptTo W cl x n = ((prs cl n).map fun p => if p.1 ∈ cl ∧ p.2 ∈ cl ∧ f p.1 = f p.2 then (W p).getD 0 else 0).sum := by
    intro n
    induction n with
    | zero => intro _; rfl
    | succ n ih =>
      intro h
      rw [keptTo, ih (by omega), keptIn_sum, prs, List.map_append, List.sum_append, List.map_map]
      congr 1
      refine sum_congr fun k hk => ?_
      have hk := List.mem_range.1 hk
      simp only [Function.comp]
      have e1 := hf n (by omega)
      have e2 := hf k (by omega)
      have m1 := nth_mem (show n < cl.length by omega)
      have m2 := nth_mem (show k < cl.length by omega)
      rw [e1, e2]
      simp only [m1, m2, true_and]
      by_cases e : nth x n = nth x k
      · rw [if_pos e, if_pos e.symm]
      · rw [if_neg e, if_neg (Ne.symm e)]
  rw [key _ (Nat.le_refl _)]
  refine gsum_list (nodup_prs hn _ (Nat.le_refl _)) fun p hp' => ?_
  by_cases hc : p.1 ∈ cl ∧ p.2 ∈ cl ∧ f p.1 = f p.2
  · rw [if_pos hc] at hp'
    have hlt : p.1 < p.2 := hW p (fun e => by rw [e] at hp'; exact hp' rfl)
    obtain ⟨k, hk, e1⟩ := nth_of_mem hc.1
    obtain ⟨i, hi, e2⟩ := nth_of_mem hc.2.1
    refine ⟨(mem_prs _).2 ⟨k, i, ?_, hi, Prod.ext e1.symm e2.symm⟩, mem_grid.2 ?_⟩
    · rcases Nat.lt_trichotomy k i with h | h | h
      · exact h
      · subst h; omega
      · have := List.pairwise_iff_getElem.1 hp i k hi hk h
        simp only [nth, List.getD_eq_getElem?_getD, List.getElem?_eq_getElem hk, List.getElem?_eq_getElem hi, Option.getD_some] at e1 e2
        omega
    · have h1 := hr _ hc.1
      have h2 := hr _ hc.2.1
      exact ⟨h1.1, h1.2, h2.1, h2.2⟩
  · rw [if_neg hc] at hp'; exact absurd rfl hp'
theorem gsum_add {q : Nat} (f g : Int × Int → Int) : gsum q (fun p => f p + g p) = gsum q f + gsum q g := sum_add f g _
theorem ordP_eq {a b x y : Int} (hxy : x < y) : ordP a b = (x, y) ↔ (a = x ∧ b = y) ∨ (a = y ∧ b = x) := by
  unfold ordP
  constructor
  · intro h
    have h1 := congrArg Prod.fst h
    have h2 := congrArg Prod.snd h
    simp only at h1 h2
    omega
  · rintro (⟨rfl, rfl⟩ | ⟨rfl, rfl⟩) <;> (apply Prod.ext <;> simp only <;> omega)
section
variable {q : Nat} {WT : Int × Int → Option Int} {AP : Int × Int → Option Bool} {cl : List Int}
theorem kept_step {hd : Int → Int} {p : Int × Int} (hlt : p.1 < p.2) : kept q WT cl (fun c => subst p.1 p.2 (hd c)) = kept q WT cl hd + WG q WT cl hd p := by
  unfold kept WG
  rw [← gsum_add]
  refine sum_congr fun p' _ => ?_
  by_cases h1 : p'.1 ∈ cl
  · by_cases h2 : p'.2 ∈ cl
    · simp only [h1, h2, true_and]
      have ho := ordP_eq (a := hd p'.1) (b := hd p'.2) hlt
      have ep : ((p.1, p.2) : Int × Int) = p := rfl
      rw [ep] at ho
      by_cases e : hd p'.1 = hd p'.2
      · have hno : ¬ ordP (hd p'.1) (hd p'.2) = p := fun h => by have := ho.1 h; omega
        rw [if_pos (by rw [e]), if_pos e, if_neg hno]; omega
      · by_cases hp : ordP (hd p'.1) (hd p'.2) = p
        · have h3 := ho.1 hp
          have e1 : subst p.1 p.2 (hd p'.1) = subst p.1 p.2 (hd p'.2) := by
            unfold subst
            rcases h3 with ⟨a1, a2⟩ | ⟨a1, a2⟩ <;> rw [a1, a2] <;> split <;> split <;> omega
          rw [if_pos e1, if_neg e, if_pos hp]; omega
        · have e1 : ¬ subst p.1 p.2 (hd p'.1) = subst p.1 p.2 (hd p'.2) := by
            intro h
            apply hp
            apply ho.2
            unfold subst at h
            split at h <;> split at h <;> omega
          rw [if_neg e1, if_neg e, if_neg hp]; omega
    · simp only [h2, false_and, and_false, if_false]; omega
  · simp only [h1, false_and, if_false]; omega
theorem SolOk.step {hd : Int → Int} {p : Int × Int} (S : SolOk AP cl hd) (hC : Cand AP cl hd p) : SolOk AP cl (fun c => subst p.1 p.2 (hd c)) := by
  have hlt := hC.lt
  have h1 := hC.h1
  have h2 := hC.h2
  refine ⟨fun c hc => ?_, fun c hc => ?_, fun c hc => ?_, fun a ha b hb hab hap => ?_⟩
  · show subst p.1 p.2 (hd c) ∈ cl
    unfold subst
    split
    · exact hC.in1
    · exact S.inn c hc
  · show subst p.1 p.2 (hd c) ≤ c
    have := S.le c hc
    unfold subst
    split <;> omega
  · show subst p.1 p.2 (hd (subst p.1 p.2 (hd c))) = subst p.1 p.2 (hd c)
    have := S.idem c hc
    by_cases e : hd c = p.2
    · rw [show subst p.1 p.2 (hd c) = p.1 by simp [subst, e], h1]
      unfold subst; split <;> omega
    · rw [show subst p.1 p.2 (hd c) = hd c by simp [subst, e], this]
      simp [subst, e]
  · show subst p.1 p.2 (hd a) ≠ subst p.1 p.2 (hd b)
    have hne := S.ap a ha b hb hab hap
    intro e
    refine hC.ap ⟨(a, b), hap, ?_⟩
    have ho := ordP_eq (a := hd a) (b := hd b) hlt
    refine ho.2 ?_
    unfold subst at e
    split at e <;> split at e <;> omega
theorem SolOk.start (hA : ∀ p, AP p ≠ none → p.1 < p.2) : SolOk AP cl id :=
  ⟨fun c hc => hc, fun c _ => Int.le_refl _, fun c _ => rfl, fun a _ b _ hab _ e => by simp only [id] at e; omega⟩
theorem GRun.sol {hd hd' : Int → Int} (h : GRun q WT AP cl hd hd') : SolOk AP cl hd → SolOk AP cl hd' ∧ kept q WT cl hd ≤ kept q WT cl hd' := by
  induction h with
  | stop _ => intro S; exact ⟨S, Int.le_refl _⟩
  | step hb _ ih =>
    intro S
    obtain ⟨h1, h2⟩ := ih (S.step hb.cand)
    rw [kept_step hb.cand.lt] at h2
    have := hb.pos
    exact ⟨h1, by omega⟩
theorem clashB_false {cl hs : List Int} {i : Nat} (h : clashB AP cl hs i = false) {k : Nat} (hk : k < i) (e : nth hs k = nth hs i) : (AP (apK cl k i)).getD false = false := by
  unfold clashB at h
  rw [List.any_eq_false] at h
  have := h k (List.mem_range.2 hk)
  unfold clashK at this
  simpa [e] using this
theorem lt_of_nth {cl : List Int} (hp : cl.Pairwise (· < ·)) {k i : Nat} (hk : k < cl.length) (hi : i < cl.length) : nth cl k < nth cl i ↔ k < i := by
  have e1 : nth cl k = cl[k] := by simp [nth, List.getD_eq_getElem?_getD, List.getElem?_eq_getElem hk]
  have e2 : nth cl i = cl[i] := by simp [nth, List.getD_eq_getElem?_getD, List.getElem?_eq_getElem hi]
  rw [e1, e2]
  constructor
  · intro h
    rcases Nat.lt_trichotomy k i with h' | h' | h'
    · exact h'
    · subst h'; omega
    · have := List.pairwise_iff_getElem.1 hp i k hi hk h'; omega
  · intro h; exact List.pairwise_iff_getElem.1 hp k i hk hi h
/-- a row of heads of enum, as a function -/
theorem enum_sol {x : List Int} {f : Int → Int} (hp : cl.Pairwise (· < ·)) (hAv : ∀ p b, AP p = some b → b = true) (hx : x ∈ enum AP cl cl.length []) (hf : ∀ i, i < cl.length → f (nth cl i) = nth x i) : SolOk AP cl f := by
  have hn : cl.Nodup := by rw [List.nodup_iff_pairwise_ne]; exact hp.imp fun h => by omega
  obtain ⟨hl, _, hE⟩ := (mem_enum _ _ _).1 hx
  have hl : x.length = cl.length := by simpa using hl
  have key : ∀ i, i < cl.length → ∃ k, k ≤ i ∧ k < cl.length ∧ f (nth cl i) = nth cl k ∧ f (nth cl k) = nth cl k := fun i hi => by
    obtain ⟨⟨k, h1, h2, h3⟩, _⟩ := hE i (Nat.zero_le _) (by omega)
    refine ⟨k, h1, by omega, by rw [hf i hi, h2], ?_⟩
    rw [hf k (by omega)]
    rcases Nat.lt_or_eq_of_le h1 with h | rfl
    · exact h3 h
    · exact h2
  refine ⟨fun c hc => ?_, fun c hc => ?_, fun c hc => ?_, fun a ha b hb hab hap e => ?_⟩
  · obtain ⟨i, hi, rfl⟩ := nth_of_mem hc
    obtain ⟨k, h1, h2, h3, h4⟩ := key i hi
    rw [h3]; exact nth_mem h2
  · obtain ⟨i, hi, rfl⟩ := nth_of_mem hc
    obtain ⟨k, h1, h2, h3, h4⟩ := key i hi
    rw [h3]
    rcases Nat.lt_or_eq_of_le h1 with h | rfl
    · exact Int.le_of_lt ((lt_of_nth hp h2 hi).2 h)
    · exact Int.le_refl _
  · obtain ⟨i, hi, rfl⟩ := nth_of_mem hc
    obtain ⟨k, h1, h2, h3, h4⟩ := key i hi
    rw [h3, h4]
  · obtain ⟨i, hi, rfl⟩ := nth_of_mem ha
    obtain ⟨k, hk, rfl⟩ := nth_of_mem hb
    have hik := (lt_of_nth hp hi hk).1 hab
    rw [hf i hi, hf k hk] at e
    have hc := clashB_false (hE k (Nat.zero_le _) (by omega)).2 hik e
    have ek : apK cl i k = (nth cl i, nth cl k) := by unfold apK; apply Prod.ext <;> simp only <;> omega
    rw [ek] at hc
    cases hb : AP (nth cl i, nth cl k) with
    | none => exact hap hb
    | some b => rw [hb, hAv _ _ hb] at hc; simp at hc
theorem Solved.sol {hs : List Int} {f : Int → Int} (h : Solved q WT AP cl hs) (hp : cl.Pairwise (· < ·)) (hr : ∀ c ∈ cl, 0 ≤ c ∧ c < q) (hW : ∀ p, WT p ≠ none → p.1 < p.2) (hA : ∀ p, AP p ≠ none → p.1 < p.2) (hAv : ∀ p b, AP p = some b → b = true) (hf : ∀ i, i < cl.length → f (nth cl i) = nth hs i) :
    SolOk AP cl f ∧ 0 ≤ kept q WT cl f := by
  have hn : cl.Nodup := by rw [List.nodup_iff_pairwise_ne]; exact hp.imp fun h => by omega
  rcases h with ⟨_, l, h⟩ | ⟨_, g, hg, rfl⟩
  · have hown := own_enum (AP := AP) hn
    obtain ⟨b, h1, h2, h3⟩ := bestOf_inv (W := WT) (cl := cl) (n := cl.length) (enum AP cl cl.length []) (fun e => by rw [e] at hown; simp at hown)
    rw [h1] at h
    obtain rfl : b = hs := congrArg Prod.fst (Option.some.inj h)
    refine ⟨enum_sol hp hAv h2 hf, ?_⟩
    have h4 := h3 _ hown
    rw [keptTo_eq hp hr hW hf, keptTo_eq (f := id) hp hr hW (fun i _ => rfl), kept_id (f := id) hW (fun c _ d _ e => e)] at h4
    exact h4
  · obtain ⟨h1, h2⟩ := hg.sol (SolOk.start hA)
    have hfg : ∀ c ∈ cl, f c = g c := fun c hc => by
      obtain ⟨i, hi, rfl⟩ := nth_of_mem hc
      rw [hf i hi]
      simp [nth, List.getD_eq_getElem?_getD, hi]
    rw [kept_id (f := id) hW (fun c _ d _ e => e), kept_congr (g := f) (fun c hc d hd => by rw [hfg c hc, hfg d hd])] at h2
    refine ⟨⟨fun c hc => ?_, fun c hc => ?_, fun c hc => ?_, fun a ha b hb => ?_⟩, h2⟩
    · rw [hfg c hc]; exact h1.inn c hc
    · rw [hfg c hc]; exact h1.le c hc
    · rw [hfg c hc, hfg _ (h1.inn c hc)]; exact h1.idem c hc
    · rw [hfg a ha, hfg b hb]; exact h1.ap a ha b hb
end

end Go.Proofs.Ytiapdpbcnbgdmaa

import Derived.Test.YtiapdpbcnbgdmaaGp
set_option linter.unusedVariables false
set_option linter.unusedSimpArgs false
namespace Go.Proofs.Ytiapdpbcnbgdmaa
open Go.RowKit

theorem sum_congr {α : Type} {f g : α → Int} : ∀ {l : List α}, (∀ x ∈ l, f x = g x) → (l.map f).sum = (l.map g).sum
  | [], _ => rfl
  | x :: l, h => by
    rw [List.map_cons, List.map_cons, List.sum_cons, List.sum_cons, h x (List.mem_cons_self ..), sum_congr (fun y hy => h y (List.mem_cons_of_mem _ hy))]
theorem sum_add {α : Type} (f g : α → Int) : ∀ l : List α, (l.map fun x => f x + g x).sum = (l.map f).sum + (l.map g).sum
  | [] => rfl
  | x :: l => by
    have := sum_add f g l
    simp only [List.map_cons, List.sum_cons, this]
    omega
theorem sum_zero {α : Type} : ∀ l : List α, (l.map fun _ => (0 : Int)).sum = 0
  | [] => rfl
  | x :: l => by simp [sum_zero l]
theorem sum_swap {α β : Type} (f : α → β → Int) : ∀ (l : List α) (m : List β), (l.map fun a => (m.map (f a)).sum).sum = (m.map fun b => (l.map fun a => f a b).sum).sum
  | [], m => by simp [sum_zero]
  | x :: l, m => by
    simp only [List.map_cons, List.sum_cons, sum_swap f l m, sum_add]
theorem ordP_idem (p : Int × Int) : ordP (ordP p.1 p.2).1 (ordP p.1 p.2).2 = ordP p.1 p.2 := by unfold ordP; apply Prod.ext <;> simp only <;> omega
theorem renP_ordP (x y a b : Int) : renP x y (ordP a b) = ordP (subst x y a) (subst x y b) := by
  unfold renP ordP
  rcases Int.le_total a b with h | h
  · simp only [Int.min_eq_left h, Int.max_eq_right h]
  · simp only [Int.min_eq_right h, Int.max_eq_left h]
    rw [Int.min_comm, Int.max_comm]
theorem ordP_lt {p : Int × Int} (h : p.1 < p.2) : ordP p.1 p.2 = p := by unfold ordP; apply Prod.ext <;> simp only <;> omega

section
variable {q : Nat} {WT : Int × Int → Option Int} {AP : Int × Int → Option Bool} {cl : List Int}
theorem GInv.start (hcl : ∀ c ∈ cl, 0 ≤ c ∧ c < q) (hW : ∀ p, WT p ≠ none → p.1 < p.2) (hA : ∀ p, AP p ≠ none → p.1 < p.2 ∧ 0 ≤ p.1 ∧ p.1 < q ∧ 0 ≤ p.2 ∧ p.2 < q) (hAt : ∀ p b, AP p = some b → b = true) :
    GInv q WT AP cl id (fun p => if p.1 ∈ cl ∧ p.2 ∈ cl then WT p else none) AP := by
  refine ⟨fun c _ => rfl, fun c h => h, fun c => rfl, fun p h => ?_, fun p hne => ?_, hAt, fun p _ _ => ?_, fun p h => (hA p h).2⟩
  · by_cases hp : p.1 ∈ cl ∧ p.2 ∈ cl
    · rw [if_pos hp] at h
      exact ⟨hW p h, hp.1, hp.2, rfl, rfl⟩
    · rw [if_neg hp] at h; exact absurd rfl h
  · unfold WG
    rw [← gsum_list (ks := [p]) (by simp) (fun p' h => ?_)]
    · simp only [List.map_cons, List.map_nil, List.sum_cons, List.sum_nil, Int.add_zero, id]
      by_cases hp : p.1 ∈ cl ∧ p.2 ∈ cl
      · rw [if_pos hp]
        by_cases ho : ordP p.1 p.2 = p
        · rw [if_pos ⟨hp.1, hp.2, ho⟩]
        · rw [if_neg (fun h => ho h.2.2)]
          cases hw : WT p with
          | none => rfl
          | some x => exact absurd (ordP_lt (hW p (by rw [hw]; simp))) ho
      · rw [if_neg hp, if_neg (fun h => hp ⟨h.1, h.2.1⟩)]
        rfl
    · simp only [id] at h
      by_cases hc : p'.1 ∈ cl ∧ p'.2 ∈ cl ∧ ordP p'.1 p'.2 = p
      · rw [if_pos hc] at h
        have hlt : p'.1 < p'.2 := hW p' (by intro e; rw [e] at h; exact h rfl)
        have e : p' = p := by rw [← hc.2.2, ordP_lt hlt]
        refine ⟨by simp [e], mem_grid.2 ?_⟩
        have h1 := hcl _ hc.1
        have h2 := hcl _ hc.2.1
        exact ⟨h1.1, h1.2, h2.1, h2.2⟩
      · rw [if_neg hc] at h; exact absurd rfl h
  · constructor
    · intro h; exact ⟨p, h, ordP_lt (hA p h).1⟩
    · rintro ⟨p', h, e⟩
      simp only [id] at e
      rw [ordP_lt (hA p' h).1] at e
      rwa [← e]
theorem GInv.step {hd : Int → Int} {Wt Wt' : Int × Int → Option Int} {At At' : Int × Int → Option Bool} {x y : Int} (I : GInv q WT AP cl hd Wt At) (hcl : ∀ c ∈ cl, 0 ≤ c ∧ c < q) (hx : x ∈ cl) (hy : y ∈ cl) (hhx : hd x = x) (hhy : hd y = y) (hxy : x < y)
    (hW : ∀ p, p.1 ≠ p.2 → (Wt' p).getD 0 = gsum q fun p' => if renP x y p' = p then (Wt p').getD 0 else 0) (hWk : ∀ p, Wt' p ≠ none → ∃ p', Wt p' ≠ none ∧ renP x y p' = p ∧ p.1 ≠ p.2)
    (hA : ∀ p, At' p ≠ none ↔ At p ≠ none ∨ ∃ p', At p' ≠ none ∧ renP x y p' = p) (hAv : ∀ p b, At' p = some b → b = true) : GInv q WT AP cl (fun c => subst x y (hd c)) Wt' At' := by
  have hxr := hcl x hx
  have hsub : ∀ c : Int, 0 ≤ c ∧ c < q → 0 ≤ subst x y c ∧ subst x y c < q := fun c h => by unfold subst; split <;> omega
  have hs : ∀ c, hd c = c → c ≠ y → subst x y (hd c) = c := fun c h h' => by rw [h]; simp [subst, h']
  -- a head behind the step is a head ahead of it, and is not y
  have hh : ∀ c, subst x y (hd c) = c → hd c = c ∧ c ≠ y := fun c h => by
    unfold subst at h
    split at h
    · rename_i e
      subst h
      rw [hhx] at e
      omega
    · rename_i e
      exact ⟨h, fun e' => e (by rw [← e']; exact h)⟩
  refine ⟨fun c hc => ?_, fun c hc => ?_, fun c => ?_, fun p hp => ?_, fun p hne => ?_, hAv, fun p h1 h2 => ?_, fun p hp => ?_⟩
  · show subst x y (hd c) = c
    rw [I.out c hc]
    unfold subst
    split
    · rename_i e; subst e; exact absurd hy hc
    · rfl
  · show subst x y (hd c) ∈ cl
    unfold subst
    split
    · exact hx
    · exact I.inn c hc
  · show subst x y (hd (subst x y (hd c))) = subst x y (hd c)
    unfold subst
    split
    · rename_i e
      rw [hhx, if_neg (by omega)]
    · rename_i e
      rw [I.idem, if_neg e]
  · obtain ⟨p', hp', e, hne⟩ := hWk p hp
    obtain ⟨k1, k2, k3, k4, k5⟩ := I.wkey p' hp'
    have hin : ∀ c, c ∈ cl → hd c = c → subst x y c ∈ cl ∧ subst x y (hd (subst x y c)) = subst x y c := fun c hc hhc => by
      unfold subst
      split
      · rename_i e'
        exact ⟨hx, by rw [hhx, if_neg (by omega)]⟩
      · rename_i e'
        exact ⟨hc, by rw [hhc, if_neg e']⟩
    have h1 := hin _ k2 k4
    have h2 := hin _ k3 k5
    rw [← e] at hne ⊢
    unfold renP ordP at hne ⊢
    simp only at hne ⊢
    rcases Int.le_total (subst x y p'.1) (subst x y p'.2) with h | h
    · simp only [Int.min_eq_left h, Int.max_eq_right h] at hne ⊢
      exact ⟨by omega, h1.1, h2.1, h1.2, h2.2⟩
    · simp only [Int.min_eq_right h, Int.max_eq_left h] at hne ⊢
      exact ⟨by omega, h2.1, h1.1, h2.2, h1.2⟩
  · rw [hW p hne]
    unfold WG
    have e1 : (gsum q fun p' => if renP x y p' = p then (Wt p').getD 0 else 0) = gsum q fun p' => gsum q fun p'' => if renP x y p' = p then (if p''.1 ∈ cl ∧ p''.2 ∈ cl ∧ ordP (hd p''.1) (hd p''.2) = p' then (WT p'').getD 0 else 0) else 0 := by
      refine sum_congr fun p' _ => ?_
      by_cases hr : renP x y p' = p
      · rw [if_pos hr]
        have hp' : p'.1 ≠ p'.2 := fun e => hne (by rw [← hr]; unfold renP ordP; rw [e]; simp)
        rw [I.wval p' hp']
        unfold WG
        refine sum_congr fun p'' _ => ?_
        rw [if_pos hr]
      · rw [if_neg hr]
        symm
        unfold gsum
        rw [sum_congr (g := fun _ => 0) (fun p'' _ => by rw [if_neg hr]), sum_zero]
    rw [e1]
    unfold gsum
    rw [sum_swap]
    refine sum_congr fun p'' hp'' => ?_
    by_cases hc : p''.1 ∈ cl ∧ p''.2 ∈ cl
    · have hk : ordP (hd p''.1) (hd p''.2) ∈ grid q := by
        have h1 := hcl _ (I.inn _ hc.1)
        have h2 := hcl _ (I.inn _ hc.2)
        rw [mem_grid]
        unfold ordP
        simp only
        omega
      have := gsum_list (q := q) (f := fun p' => if renP x y p' = p then (if p''.1 ∈ cl ∧ p''.2 ∈ cl ∧ ordP (hd p''.1) (hd p''.2) = p' then (WT p'').getD 0 else 0) else 0) (ks := [ordP (hd p''.1) (hd p''.2)]) (by simp) (fun p' h => by
        by_cases hr : renP x y p' = p
        · simp only [if_pos hr] at h
          by_cases hh : p''.1 ∈ cl ∧ p''.2 ∈ cl ∧ ordP (hd p''.1) (hd p''.2) = p'
          · rw [← hh.2.2]; exact ⟨by simp, hk⟩
          · rw [if_neg hh] at h; exact absurd rfl h
        · simp only [if_neg hr] at h; exact absurd rfl h)
      unfold gsum at this
      rw [← this]
      simp only [List.map_cons, List.map_nil, List.sum_cons, List.sum_nil, Int.add_zero, and_true, renP_ordP]
      by_cases hr : ordP (subst x y (hd p''.1)) (subst x y (hd p''.2)) = p
      · rw [if_pos hr, if_pos hc, if_pos ⟨hc.1, hc.2, hr⟩]
      · rw [if_neg hr, if_neg (fun h => hr h.2.2)]
    · rw [if_neg (fun h => hc ⟨h.1, h.2.1⟩), sum_congr (g := fun _ => 0) (fun p' _ => by
        by_cases hr : renP x y p' = p
        · rw [if_pos hr, if_neg (fun h => hc ⟨h.1, h.2.1⟩)]
        · rw [if_neg hr]), sum_zero]
  · obtain ⟨a1, a2⟩ := hh _ h1
    obtain ⟨b1, b2⟩ := hh _ h2
    rw [hA]
    constructor
    · rintro (h | ⟨p', h, e⟩)
      · obtain ⟨p', hp', e⟩ := (I.akey p a1 b1).1 h
        refine ⟨p', hp', ?_⟩
        rw [← renP_ordP, e]
        unfold renP
        rw [show subst x y p.1 = p.1 by simp [subst, a2], show subst x y p.2 = p.2 by simp [subst, b2]]
        rw [← e]; exact ordP_idem (hd p'.1, hd p'.2)
      · -- what was there is made of heads too
        have hc : ∀ c, hd (subst x y c) = subst x y c → subst x y c ≠ y → hd c = c := fun c h h' => by
          unfold subst at h h'
          split at h
          · rename_i e'; rw [e', hhy]
          · exact h
        have hpp : (hd (subst x y p'.1) = subst x y p'.1 ∧ subst x y p'.1 ≠ y) ∧ (hd (subst x y p'.2) = subst x y p'.2 ∧ subst x y p'.2 ≠ y) := by
          unfold renP ordP at e
          rcases Int.le_total (subst x y p'.1) (subst x y p'.2) with h' | h'
          · simp only [Int.min_eq_left h', Int.max_eq_right h'] at e
            rw [← e] at a1 a2 b1 b2
            exact ⟨⟨a1, a2⟩, ⟨b1, b2⟩⟩
          · simp only [Int.min_eq_right h', Int.max_eq_left h'] at e
            rw [← e] at a1 a2 b1 b2
            exact ⟨⟨b1, b2⟩, ⟨a1, a2⟩⟩
        obtain ⟨p0, h0, e0⟩ := (I.akey p' (hc _ hpp.1.1 hpp.1.2) (hc _ hpp.2.1 hpp.2.2)).1 h
        exact ⟨p0, h0, by rw [← renP_ordP, e0, e]⟩
    · rintro ⟨p', hp', e⟩
      right
      refine ⟨ordP (hd p'.1) (hd p'.2), ?_, by rw [renP_ordP]; exact e⟩
      refine (I.akey _ ?_ ?_).2 ⟨p', hp', rfl⟩
      · unfold ordP; simp only
        rcases Int.le_total (hd p'.1) (hd p'.2) with h' | h'
        · rw [Int.min_eq_left h']; exact I.idem _
        · rw [Int.min_eq_right h']; exact I.idem _
      · unfold ordP; simp only
        rcases Int.le_total (hd p'.1) (hd p'.2) with h' | h'
        · rw [Int.max_eq_right h']; exact I.idem _
        · rw [Int.max_eq_left h']; exact I.idem _
  · rcases (hA p).1 hp with h | ⟨p', h, e⟩
    · exact I.arng p h
    · obtain ⟨h1, h2, h3, h4⟩ := I.arng p' h
      have k1 := hsub p'.1 ⟨h1, h2⟩
      have k2 := hsub p'.2 ⟨h3, h4⟩
      rw [← e]
      unfold renP ordP
      simp only
      omega
end

end Go.Proofs.Ytiapdpbcnbgdmaa

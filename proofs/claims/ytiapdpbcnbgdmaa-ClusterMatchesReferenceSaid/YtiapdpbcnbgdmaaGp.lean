import Derived.Test.YtiapdpbcnbgdmaaGs
set_option linter.unusedVariables false
set_option linter.unusedSimpArgs false
namespace Go.Proofs.Ytiapdpbcnbgdmaa
open Go.RowKit

def headOf (cl : List Int) (hd : Int → Int) (c : Int) : Option Int := if c ∈ cl then some (hd c) else none
/-! The plain law of greedy: heads, the weights between heads, the pairs of heads that are apart. -/
def grid (q : Nat) : List (Int × Int) := (List.range q).flatMap fun (a : Nat) => (List.range q).map fun (b : Nat) => ((a : Int), (b : Int))
def gsum (q : Nat) (f : Int × Int → Int) : Int := ((grid q).map f).sum
section
variable (q : Nat) (WT : Int × Int → Option Int) (AP : Int × Int → Option Bool) (cl : List Int)
def WG (hd : Int → Int) (p : Int × Int) : Int := gsum q fun p' => if p'.1 ∈ cl ∧ p'.2 ∈ cl ∧ ordP (hd p'.1) (hd p'.2) = p then (WT p').getD 0 else 0
def AG (hd : Int → Int) (p : Int × Int) : Prop := ∃ p', AP p' ≠ none ∧ ordP (hd p'.1) (hd p'.2) = p
structure Cand (hd : Int → Int) (p : Int × Int) : Prop where
  in1 : p.1 ∈ cl
  in2 : p.2 ∈ cl
  h1 : hd p.1 = p.1
  h2 : hd p.2 = p.2
  lt : p.1 < p.2
  ap : ¬ AG AP hd p
structure Best (hd : Int → Int) (p : Int × Int) : Prop where
  cand : Cand AP cl hd p
  pos : 0 < WG q WT cl hd p
  best : ∀ p', Cand AP cl hd p' → WG q WT cl hd p' < WG q WT cl hd p ∨ (WG q WT cl hd p' = WG q WT cl hd p ∧ cmpP p p' ≤ 0)
inductive GRun : (Int → Int) → (Int → Int) → Prop
  | stop {hd : Int → Int} : (∀ p, Cand AP cl hd p → WG q WT cl hd p ≤ 0) → GRun hd hd
  | step {hd hd' : Int → Int} {p : Int × Int} : Best q WT AP cl hd p → GRun (fun c => subst p.1 p.2 (hd c)) hd' → GRun hd hd'
structure GInv (hd : Int → Int) (Wt : Int × Int → Option Int) (At : Int × Int → Option Bool) : Prop where
  out : ∀ c, c ∉ cl → hd c = c
  inn : ∀ c, c ∈ cl → hd c ∈ cl
  idem : ∀ c, hd (hd c) = hd c
  wkey : ∀ p, Wt p ≠ none → p.1 < p.2 ∧ p.1 ∈ cl ∧ p.2 ∈ cl ∧ hd p.1 = p.1 ∧ hd p.2 = p.2
  wval : ∀ p, p.1 ≠ p.2 → (Wt p).getD 0 = WG q WT cl hd p
  aval : ∀ p b, At p = some b → b = true
  akey : ∀ p, hd p.1 = p.1 → hd p.2 = p.2 → (At p ≠ none ↔ AG AP hd p)
  arng : ∀ p, At p ≠ none → 0 ≤ p.1 ∧ p.1 < q ∧ 0 ≤ p.2 ∧ p.2 < q
end
def renP (x y : Int) (p : Int × Int) : Int × Int := ordP (subst x y p.1) (subst x y p.2)
theorem mem_grid {q : Nat} {p : Int × Int} : p ∈ grid q ↔ 0 ≤ p.1 ∧ p.1 < q ∧ 0 ≤ p.2 ∧ p.2 < q := by
  unfold grid
  simp only [List.mem_flatMap, List.mem_map, List.mem_range]
  constructor
  · rintro ⟨a, ha, b, hb, rfl⟩
    simp only; omega
  · rintro ⟨h1, h2, h3, h4⟩
    exact ⟨p.1.toNat, by omega, p.2.toNat, by omega, Prod.ext (Int.toNat_of_nonneg h1) (Int.toNat_of_nonneg h3)⟩
theorem nodup_grid (q : Nat) : (grid q).Nodup := by
  unfold grid
  rw [List.nodup_iff_pairwise_ne, List.pairwise_flatMap]
  constructor
  · intro a _
    rw [List.pairwise_map]
    refine (List.nodup_iff_pairwise_ne.1 (List.nodup_range (n := q))).imp ?_
    intro i j h e
    have := congrArg Prod.snd e
    simp only at this
    omega
  · refine (List.nodup_iff_pairwise_ne.1 (List.nodup_range (n := q))).imp ?_
    intro a b hab x hx y hy e
    obtain ⟨i, _, rfl⟩ := List.mem_map.1 hx
    obtain ⟨j, _, rfl⟩ := List.mem_map.1 hy
    exact hab (by have := congrArg Prod.fst e; simp only at this; omega)
theorem sum_filter {α : Type} (f : α → Int) : ∀ l : List α, (l.map f).sum = ((l.filter fun x => decide (f x ≠ 0)).map f).sum
  | [] => rfl
  | x :: l => by
    rw [List.map_cons, List.sum_cons, sum_filter f l, List.filter_cons]
    by_cases h : f x = 0
    · simp [h]
    · simp [h]
theorem sum_perm {l l' : List Int} (h : l.Perm l') : l.sum = l'.sum := by
  induction h with
  | nil => rfl
  | cons x _ ih => simp [ih]
  | swap x y l => simp; omega
  | trans _ _ ih1 ih2 => exact ih1.trans ih2
/-- A sum over all the pairs is one over a list that has each key once. -/
theorem gsum_list {q : Nat} {f : Int × Int → Int} {ks : List (Int × Int)} (hn : ks.Nodup) (hf : ∀ p, f p ≠ 0 → p ∈ ks ∧ p ∈ grid q) : (ks.map f).sum = gsum q f := by
  unfold gsum
  rw [sum_filter f ks, sum_filter f (grid q)]
  apply sum_perm
  apply List.Perm.map
  rw [List.perm_ext_iff_of_nodup (hn.sublist List.filter_sublist) ((nodup_grid q).sublist List.filter_sublist)]
  intro p
  simp only [List.mem_filter, decide_eq_true_eq]
  constructor
  · rintro ⟨_, h⟩; exact ⟨(hf p h).2, h⟩
  · rintro ⟨_, h⟩; exact ⟨(hf p h).1, h⟩
theorem sum_le {α : Type} {f : α → Int} {B : Int} (hB : ∀ x, -B ≤ f x ∧ f x ≤ B) : ∀ l : List α, -(l.length * B) ≤ (l.map f).sum ∧ (l.map f).sum ≤ l.length * B
  | [] => by simp
  | x :: l => by
    have h1 := sum_le hB l
    have h2 := hB x
    have h3 : ((x :: l).length : Int) * B = l.length * B + B := by simp [Int.add_mul]
    rw [List.map_cons, List.sum_cons, h3]
    omega
theorem length_grid (q : Nat) : (grid q).length = q * q := by
  unfold grid
  rw [List.length_flatMap]
  have : ∀ l : List Nat, (l.map fun _ => q).sum = l.length * q := fun l => by
    induction l with
    | nil => simp
    | cons x l ih => simp [ih, Nat.add_mul]; omega
  simp [this]

end Go.Proofs.Ytiapdpbcnbgdmaa

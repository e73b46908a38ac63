import Derived.Test.YtiapdpbcnbgdmaaWs
import Derived.Test.YtiapdpbcnbgdmaaCs
import Derived.Test.YtiapdpbcnbgdmaaEx
set_option linter.unusedVariables false
set_option linter.unusedSimpArgs false
namespace Go.Proofs.Ytiapdpbcnbgdmaa
open Go.RowKit

/-! The components as lists; what enum and bestOf hold. -/
def ixs (m : Nat) (p : Nat → Bool) : List Int := ((List.range m).filter p).map fun (i : Nat) => (i : Int)
def comps (ms : List Int) (m : Nat) : List Int := ixs m fun i => decide (nth ms i = i)
def recs (ms : List Int) (m : Nat) (c : Int) : List Int := ixs m fun i => decide (nth ms i = c)
def clsOf (same ms : List Int) (m : Nat) (c : Int) : List Int := ixs m fun i => decide (nth ms i = c) && decide (nth same i = i)
theorem mem_ixs {m : Nat} {p : Nat → Bool} {c : Int} : c ∈ ixs m p ↔ 0 ≤ c ∧ c < m ∧ p c.toNat = true := by
  unfold ixs
  simp only [List.mem_map, List.mem_filter, List.mem_range]
  constructor
  · rintro ⟨i, ⟨h1, h2⟩, rfl⟩; exact ⟨by omega, by omega, h2⟩
  · rintro ⟨h1, h2, h3⟩; exact ⟨c.toNat, ⟨by omega, h3⟩, Int.toNat_of_nonneg h1⟩
theorem mem_comps {ms : List Int} {m : Nat} {c : Int} : c ∈ comps ms m ↔ 0 ≤ c ∧ c < m ∧ nth ms c.toNat = c := by
  unfold comps
  rw [mem_ixs]
  constructor
  · rintro ⟨h1, h2, h3⟩; exact ⟨h1, h2, by simp only [decide_eq_true_eq] at h3; omega⟩
  · rintro ⟨h1, h2, h3⟩; exact ⟨h1, h2, by simp only [decide_eq_true_eq]; omega⟩
theorem mem_recs {ms : List Int} {m : Nat} {c d : Int} : d ∈ recs ms m c ↔ 0 ≤ d ∧ d < m ∧ nth ms d.toNat = c := by
  unfold recs
  rw [mem_ixs]
  simp only [decide_eq_true_eq]
theorem mem_cls {same ms : List Int} {m : Nat} {c d : Int} : d ∈ clsOf same ms m c ↔ 0 ≤ d ∧ d < m ∧ nth ms d.toNat = c ∧ nth same d.toNat = d := by
  unfold clsOf
  rw [mem_ixs]
  simp only [decide_eq_true_eq, Bool.and_eq_true]
  constructor
  · rintro ⟨h1, h2, h3, h4⟩; exact ⟨h1, h2, h3, by omega⟩
  · rintro ⟨h1, h2, h3, h4⟩; exact ⟨h1, h2, h3, by omega⟩
theorem pair_ixs (m : Nat) (p : Nat → Bool) : (ixs m p).Pairwise (· < ·) := by
  unfold ixs
  rw [List.pairwise_map]
  refine List.Pairwise.sublist List.filter_sublist ?_
  refine (List.pairwise_lt_range (n := m)).imp ?_
  intro a b h
  omega
theorem nodup_ixs (m : Nat) (p : Nat → Bool) : (ixs m p).Nodup := by
  rw [List.nodup_iff_pairwise_ne]
  exact (pair_ixs m p).imp fun h => by omega
theorem len_ixs (m : Nat) (p : Nat → Bool) : (ixs m p).length ≤ m := by
  unfold ixs
  rw [List.length_map]
  exact Nat.le_trans (List.length_filter_le _ _) (by simp)
theorem ixs_succ (m : Nat) (p : Nat → Bool) : ixs (m + 1) p = ixs m p ++ if p m then [(m : Int)] else [] := by
  unfold ixs
  rw [List.range_succ, List.filter_append, List.map_append]
  cases h : p m <;> simp [h]
theorem keep_recs (same ms : List Int) (m : Nat) (c : Int) : keep (fun x => nth same x.toNat != x) (recs ms m c) = clsOf same ms m c := by
  unfold keep recs clsOf ixs
  rw [List.filter_map, List.filter_filter]
  congr 2
  funext i
  simp only [Function.comp, bne, Bool.not_not, Int.toNat_natCast]
  rw [Bool.and_comm]
  congr 1
section
variable {same ms : List Int} {m : Nat} {R : Int → Int → Prop}
theorem MarkOk.self (K : MarkOk same m R ms) (hs : ∀ a b, R a b → R b a) {i : Nat} (hi : i < m) : nth ms (nth ms i).toNat = nth ms i := by
  obtain ⟨h1, h2, h3⟩ := K.2 i hi
  have hlt : (nth ms i).toNat < m := by have := h1.1; have := h1.2.1; omega
  obtain ⟨k1, k2, k3⟩ := K.2 _ hlt
  rw [h1.2.2] at k2
  have a1 := k3 _ k2
  have a2 := h3 _ (k2.symm hs)
  omega
theorem MarkOk.le_same (K : MarkOk same m R ms) {i : Nat} (hi : i < m) : nth ms i ≤ nth same i := (K.2 i hi).2.2 _ (K.2 i hi).2.1
theorem MarkOk.uniq {ms' : List Int} (K : MarkOk same m R ms) (K' : MarkOk same m R ms') (hs : ∀ a b, R a b → R b a) : ms = ms' := by
  refine List.ext_getElem (by rw [K.1, K'.1]) fun i h1 h2 => ?_
  have hi : i < m := by rw [← K.1]; exact h1
  obtain ⟨k1, k2, k3⟩ := K.2 i hi
  obtain ⟨j1, j2, j3⟩ := K'.2 i hi
  have a1 := k3 _ (k2.trans (j2.symm hs))
  have a2 := j3 _ (j2.trans (k2.symm hs))
  have e : nth ms i = nth ms' i := by omega
  unfold nth at e
  simpa [List.getD_eq_getElem?_getD, h1, h2] using e
theorem MarkOk.le (K : MarkOk same m R ms) (hv : ValidP same) (hl : same.length = m) {i : Nat} (hi : i < m) : nth ms i ≤ i := by
  have := K.le_same hi
  obtain ⟨_, h2, _⟩ := hv.1 i (by omega)
  omega
end
theorem pos_none {m : Int} {g : List (Int × List Int)} (h : ∀ e ∈ g, e.1 ≠ m) : pos m g = none := by
  induction g with
  | nil => rfl
  | cons e g ih =>
    rw [pos, if_neg (fun h' => h e (List.mem_cons_self ..) h'.symm), ih (fun e he => h e (List.mem_cons_of_mem _ he))]
    rfl
/-- what the groups become when record k comes into the group of c -/
theorem pos_turn {f f' : Int → List Int} {c k : Int} : ∀ (ks : List Int), c ∈ ks → ks.Nodup → (∀ d, d ≠ c → f' d = f d) → f' c = f c ++ [k] →
    (match pos c (ks.map fun d => (d, f d)) with | some j => (ks.map fun d => (d, f d)).modify j fun e => (e.1, e.2 ++ [k]) | none => (ks.map fun d => (d, f d)) ++ [(c, [k])]) = ks.map fun d => (d, f' d)
  | d :: ks, hm, hn, h1, h2 => by
    rw [List.map_cons, pos]
    by_cases e : c = d
    · subst e
      rw [if_pos rfl]
      simp only [List.modify_zero_cons, List.map_cons, h2, List.cons.injEq, true_and]
      apply List.map_congr_left
      intro d hd
      rw [h1 d (fun e => (List.nodup_cons.1 hn).1 (e ▸ hd))]
    · rw [if_neg e]
      have hm' : c ∈ ks := by rcases List.mem_cons.1 hm with h | h; exact absurd h e; exact h
      have ih := pos_turn ks hm' (List.nodup_cons.1 hn).2 h1 h2
      cases hp : pos c (ks.map fun d => (d, f d)) with
      | none =>
        rw [hp] at ih
        simp only [List.map_cons, Option.map_none, List.cons_append, List.cons.injEq]
        exact ⟨by rw [h1 d (Ne.symm e)], ih⟩
      | some j =>
        rw [hp] at ih
        simp only [List.map_cons, Option.map_some, List.modify_succ_cons, List.cons.injEq]
        exact ⟨by rw [h1 d (Ne.symm e)], ih⟩
theorem memTo_eq {same ms : List Int} {m : Nat} {R : Int → Int → Prop} (K : MarkOk same m R ms) (hs : ∀ a b, R a b → R b a) (hv : ValidP same) (hl : same.length = m) : ∀ k, k ≤ m → memTo ms k = (comps ms k).map fun c => (c, recs ms k c) := by
  intro k
  induction k with
  | zero => intro _; rfl
  | succ k ih =>
    intro hk
    have ih := ih (by omega)
    rw [memTo, ih]
    have hself := K.self hs (show k < m by omega)
    have hle := K.le hv hl (show k < m by omega)
    obtain ⟨hc0, hc1, _⟩ := (K.2 k (by omega)).1
    have hrec : ∀ d, recs ms (k + 1) d = recs ms k d ++ if nth ms k = d then [(k : Int)] else [] := fun d => by
      unfold recs
      rw [ixs_succ]
      simp only [decide_eq_true_eq]
    by_cases e : nth ms k = k
    · have hcm : comps ms (k + 1) = comps ms k ++ [(k : Int)] := by unfold comps; rw [ixs_succ]; simp [e]
      have hno : ∀ d ∈ comps ms k, d ≠ nth ms k := fun d hd => by
        have := (mem_comps.1 hd).2.1
        omega
      rw [pos_none (by
        intro e' he'
        obtain ⟨d, hd, rfl⟩ := List.mem_map.1 he'
        exact hno d hd), hcm, List.map_append]
      have hnew : recs ms (k + 1) (k : Int) = [(k : Int)] := by
        rw [hrec, if_pos e]
        have : recs ms k (k : Int) = [] := by
          rw [List.eq_nil_iff_forall_not_mem]
          intro d hd
          obtain ⟨h1, h2, h3⟩ := mem_recs.1 hd
          have := K.le hv hl (show d.toNat < m by omega)
          omega
        rw [this]; rfl
      simp only [List.map_cons, List.map_nil, hnew]
      refine congr (congrArg _ ?_) ?_
      · apply List.map_congr_left
        intro d hd
        rw [hrec, if_neg (fun e => hno d hd e.symm), List.append_nil]
      · rw [e]
    · have hcm : comps ms (k + 1) = comps ms k := by unfold comps; rw [ixs_succ]; simp [e]
      rw [hcm]
      refine pos_turn (f := recs ms k) (f' := recs ms (k + 1)) (comps ms k) (mem_comps.2 ⟨hc0, by omega, hself⟩) (nodup_ixs _ _) (fun d hd => ?_) ?_
      · rw [hrec, if_neg (fun e => hd e.symm), List.append_nil]
      · rw [hrec, if_pos rfl]
/-- the groups that members answers -/
theorem groups_eq {same ms : List Int} {m : Nat} {R : Int → Int → Prop} (K : MarkOk same m R ms) (hs : ∀ a b, R a b → R b a) (hv : ValidP same) (hl : same.length = m) : (memTo ms m).map (·.2) = (comps ms m).map (recs ms m) := by
  rw [memTo_eq K hs hv hl m (Nat.le_refl _), List.map_map]
  rfl

/-! enum -/
theorem nth_append_left {xs ys : List Int} {i : Nat} (h : i < xs.length) : nth (xs ++ ys) i = nth xs i := by
  unfold nth
  rw [List.getD_eq_getElem?_getD, List.getD_eq_getElem?_getD, List.getElem?_append_left h]
theorem nth_append_last {xs : List Int} {y : Int} : nth (xs ++ [y]) xs.length = y := by
  unfold nth
  simp [List.getD_eq_getElem?_getD]
theorem nth_mem {xs : List Int} {i : Nat} (h : i < xs.length) : nth xs i ∈ xs := by
  unfold nth
  rw [List.getD_eq_getElem?_getD, List.getElem?_eq_getElem h]
  exact List.getElem_mem h
theorem nth_inj {xs : List Int} (hn : xs.Nodup) {i j : Nat} (hi : i < xs.length) (hj : j < xs.length) (e : nth xs i = nth xs j) : i = j := by
  unfold nth at e
  simp only [List.getD_eq_getElem?_getD, List.getElem?_eq_getElem hi, List.getElem?_eq_getElem hj, Option.getD_some] at e
  exact (List.getElem_inj hn).1 e
theorem nth_of_mem {xs : List Int} {c : Int} (h : c ∈ xs) : ∃ i, i < xs.length ∧ nth xs i = c := by
  obtain ⟨i, hi, e⟩ := List.getElem_of_mem h
  exact ⟨i, hi, by unfold nth; rw [List.getD_eq_getElem?_getD, List.getElem?_eq_getElem hi]; exact e⟩
theorem clashB_congr' {AP : Int × Int → Option Bool} {cl hs hs' : List Int} {a : Nat} (h : ∀ k, k ≤ a → nth hs k = nth hs' k) : clashB AP cl hs a = clashB AP cl hs' a := by
  unfold clashB
  rw [Bool.eq_iff_iff, List.any_eq_true, List.any_eq_true]
  constructor <;>
  · rintro ⟨k, hk, h'⟩
    refine ⟨k, hk, ?_⟩
    have := List.mem_range.1 hk
    unfold clashK at h' ⊢
    first
    | rw [h k (by omega), h a (Nat.le_refl _)] at h'; exact h'
    | rw [h k (by omega), h a (Nat.le_refl _)]; exact h'
/-- A row of heads that enum gives: at each index the head is an earlier class that is a head, or the class itself; no clash. -/
def EOk (AP : Int × Int → Option Bool) (cl x : List Int) (i : Nat) : Prop := (∃ k, k ≤ i ∧ nth x i = nth cl k ∧ (k < i → nth x k = nth cl k)) ∧ clashB AP cl x i = false
theorem EOk.congr {AP : Int × Int → Option Bool} {cl x y : List Int} {i : Nat} (h : ∀ k, k ≤ i → nth x k = nth y k) : EOk AP cl x i ↔ EOk AP cl y i := by
  unfold EOk
  rw [clashB_congr' h]
  constructor
  · rintro ⟨⟨k, h1, h2, h3⟩, h4⟩
    exact ⟨⟨k, h1, by rw [← h i (Nat.le_refl _), h2], fun hk => by rw [← h k h1, h3 hk]⟩, h4⟩
  · rintro ⟨⟨k, h1, h2, h3⟩, h4⟩
    exact ⟨⟨k, h1, by rw [h i (Nat.le_refl _), h2], fun hk => by rw [h k h1, h3 hk]⟩, h4⟩
theorem mem_enum {AP : Int × Int → Option Bool} {cl : List Int} : ∀ (d : Nat) (pfx x : List Int), x ∈ enum AP cl d pfx ↔ x.length = pfx.length + d ∧ x.take pfx.length = pfx ∧ ∀ i, pfx.length ≤ i → i < x.length → EOk AP cl x i
  | 0, pfx, x => by
    rw [enum, List.mem_singleton]
    constructor
    · rintro rfl
      exact ⟨rfl, by simp, fun i h1 h2 => by omega⟩
    · rintro ⟨h1, h2, _⟩
      rw [List.take_of_length_le (by omega)] at h2
      exact h2
  | d + 1, pfx, x => by
    rw [enum, List.mem_flatMap]
    constructor
    · rintro ⟨k, hk, h⟩
      have hk := List.mem_range.1 hk
      split at h
      · simp at h
      · rename_i hh
        split at h
        · simp at h
        · rename_i hc
          obtain ⟨h1, h2, h3⟩ := (mem_enum d _ x).1 h
          simp only [List.length_append, List.length_cons, List.length_nil] at h1 h2 h3
          have hpx : ∀ i, i ≤ pfx.length → nth x i = nth (pfx ++ [nth cl k]) i := fun i hi => by
            rw [← h2]
            unfold nth
            rw [List.getD_eq_getElem?_getD, List.getD_eq_getElem?_getD, List.getElem?_take_of_lt (by omega)]
          refine ⟨by omega, ?_, fun i hi1 hi2 => ?_⟩
          · have := congrArg (List.take pfx.length) h2
            rw [List.take_take, Nat.min_eq_left (by omega), List.take_left'] at this
            · exact this
            · rfl
          · rcases Nat.lt_or_eq_of_le hi1 with hlt | rfl
            · exact h3 i (by omega) hi2
            · rw [EOk.congr hpx]
              refine ⟨⟨k, by omega, nth_append_last, fun hkk => ?_⟩, by simpa using hc⟩
              rw [nth_append_left hkk]
              exact Classical.byContradiction fun hne => hh ⟨hkk, hne⟩
    · rintro ⟨h1, h2, h3⟩
      have hpx0 : ∀ i, i < pfx.length → nth x i = nth pfx i := fun i hi => by
        have e : nth pfx i = nth (x.take pfx.length) i := by rw [h2]
        rw [e]
        unfold nth
        rw [List.getD_eq_getElem?_getD, List.getD_eq_getElem?_getD, List.getElem?_take_of_lt hi]
      obtain ⟨⟨k, hk1, hk2, hk3⟩, hcl⟩ := h3 pfx.length (Nat.le_refl _) (by omega)
      have htk : x.take (pfx.length + 1) = pfx ++ [nth cl k] := by
        rw [List.take_add_one, h2, ← hk2]
        unfold nth
        rw [List.getD_eq_getElem?_getD, List.getElem?_eq_getElem (show pfx.length < x.length by omega)]
        rfl
      have hpx : ∀ i, i ≤ pfx.length → nth x i = nth (pfx ++ [nth cl k]) i := fun i hi => by
        rw [← htk]
        unfold nth
        rw [List.getD_eq_getElem?_getD, List.getD_eq_getElem?_getD, List.getElem?_take_of_lt (by omega)]
      refine ⟨k, List.mem_range.2 (by omega), ?_⟩
      rw [if_neg (fun hh => hh.2 (by rw [← hpx0 k hh.1]; exact hk3 hh.1)), if_neg (by rw [← clashB_congr' hpx, hcl]; simp)]
      rw [mem_enum d]
      refine ⟨by simp; omega, by simpa using htk, fun i hi1 hi2 => h3 i (by simp at hi1; omega) hi2⟩
/-- each class its own entity is among them -/
theorem own_enum {AP : Int × Int → Option Bool} {cl : List Int} (hn : cl.Nodup) : cl ∈ enum AP cl cl.length [] := by
  rw [mem_enum]
  refine ⟨by simp, by simp, fun i _ hi => ⟨⟨i, Nat.le_refl _, rfl, fun h => absurd h (Nat.lt_irrefl _)⟩, ?_⟩⟩
  unfold clashB
  rw [List.any_eq_false]
  intro k hk
  have hk := List.mem_range.1 hk
  unfold clashK
  simp only [Bool.and_eq_true, decide_eq_true_eq, not_and]
  intro e
  have := nth_inj hn (by omega) hi e
  omega
theorem bestOf_inv {W : Int × Int → Option Int} {cl : List Int} {n : Nat} : ∀ xs : List (List Int), xs ≠ [] → ∃ b, bestOf W cl n xs = some (b, -keptTo W cl b n) ∧ b ∈ xs ∧ ∀ x ∈ xs, keptTo W cl x n ≤ keptTo W cl b n := by
  intro xs
  have key : ∀ (xs pre : List (List Int)) (b : List Int), b ∈ pre → (∀ x ∈ pre, keptTo W cl x n ≤ keptTo W cl b n) → ∃ b', xs.foldl (bestStep W cl n) (some (b, -keptTo W cl b n)) = some (b', -keptTo W cl b' n) ∧ (b' ∈ pre ∨ b' ∈ xs) ∧ (∀ x ∈ pre, keptTo W cl x n ≤ keptTo W cl b' n) ∧ ∀ x ∈ xs, keptTo W cl x n ≤ keptTo W cl b' n := by
    intro xs
    induction xs with
    | nil => intro pre b hb h; exact ⟨b, rfl, .inl hb, h, fun x hx => by simp at hx⟩
    | cons y xs ih =>
      intro pre b hb h
      rw [List.foldl_cons]
      by_cases hy : -keptTo W cl y n < -keptTo W cl b n
      · rw [show bestStep W cl n (some (b, -keptTo W cl b n)) y = some (y, -keptTo W cl y n) by simp [bestStep, hy]]
        obtain ⟨b', h1, h2, h3, h4⟩ := ih (pre ++ [y]) y (by simp) (fun x hx => by
          rcases List.mem_append.1 hx with hx | hx
          · have := h x hx; omega
          · rw [List.mem_singleton.1 hx]; exact Int.le_refl _)
        refine ⟨b', h1, ?_, fun x hx => h3 x (List.mem_append_left _ hx), fun x hx => ?_⟩
        · rcases h2 with h2 | h2
          · rcases List.mem_append.1 h2 with h2 | h2
            · exact .inl h2
            · rw [List.mem_singleton.1 h2]; exact .inr (List.mem_cons_self ..)
          · exact .inr (List.mem_cons_of_mem _ h2)
        · rcases List.mem_cons.1 hx with rfl | hx
          · exact h3 x (List.mem_append_right _ (by simp))
          · exact h4 x hx
      · rw [show bestStep W cl n (some (b, -keptTo W cl b n)) y = some (b, -keptTo W cl b n) by simp [bestStep, hy]]
        obtain ⟨b', h1, h2, h3, h4⟩ := ih (pre ++ [y]) b (List.mem_append_left _ hb) (fun x hx => by
          rcases List.mem_append.1 hx with hx | hx
          · exact h x hx
          · rw [List.mem_singleton.1 hx]; omega)
        refine ⟨b', h1, ?_, fun x hx => h3 x (List.mem_append_left _ hx), fun x hx => ?_⟩
        · rcases h2 with h2 | h2
          · rcases List.mem_append.1 h2 with h2 | h2
            · exact .inl h2
            · rw [List.mem_singleton.1 h2]; exact .inr (List.mem_cons_self ..)
          · exact .inr (List.mem_cons_of_mem _ h2)
        · rcases List.mem_cons.1 hx with rfl | hx
          · exact h3 x (List.mem_append_right _ (by simp))
          · exact h4 x hx
  intro hne
  cases xs with
  | nil => exact absurd rfl hne
  | cons y xs =>
    unfold bestOf
    rw [List.foldl_cons]
    obtain ⟨b', h1, h2, h3, h4⟩ := key xs [y] y (by simp) (by simp)
    refine ⟨b', h1, ?_, fun x hx => ?_⟩
    · rcases h2 with h2 | h2
      · rw [List.mem_singleton.1 h2]; exact List.mem_cons_self ..
      · exact List.mem_cons_of_mem _ h2
    · rcases List.mem_cons.1 hx with rfl | hx
      · exact h3 x (by simp)
      · exact h4 x hx
/-- What the solver answers for the classes of a component. -/
def Solved (q : Nat) (WT : Int × Int → Option Int) (AP : Int × Int → Option Bool) (cl hs : List Int) : Prop :=
  (cl.length ≤ 8 ∧ ∃ l, bestOf WT cl cl.length (enum AP cl cl.length []) = some (hs, l)) ∨ (8 < cl.length ∧ ∃ hd, GRun q WT AP cl id hd ∧ hs = cl.map hd)
theorem Solved.len {q : Nat} {WT : Int × Int → Option Int} {AP : Int × Int → Option Bool} {cl hs : List Int} (hn : cl.Nodup) (h : Solved q WT AP cl hs) : hs.length = cl.length := by
  rcases h with ⟨_, l, h⟩ | ⟨_, hd, _, rfl⟩
  · obtain ⟨b, h1, h2, _⟩ := bestOf_inv (W := WT) (cl := cl) (n := cl.length) (enum AP cl cl.length []) (fun e => by have := own_enum (AP := AP) hn; rw [e] at this; simp at this)
    rw [h1] at h
    have : b = hs := by have := Option.some.inj h; exact congrArg Prod.fst this
    subst this
    have := (mem_enum _ _ _).1 h2
    simpa using this.1
  · simp

end Go.Proofs.Ytiapdpbcnbgdmaa

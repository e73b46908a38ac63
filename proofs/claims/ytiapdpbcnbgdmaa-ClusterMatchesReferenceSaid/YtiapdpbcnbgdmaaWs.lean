import Derived.Test.YtiapdpbcnbgdmaaCf
set_option linter.unusedVariables false
set_option linter.unusedSimpArgs false
namespace Go.Proofs.Ytiapdpbcnbgdmaa
open Go.RowKit

/-- The sums of loop 7: what the weights are after the keys ks have come. -/
structure WSum (x y : Int) (Wt Wt' : Int × Int → Option Int) (ks : List (Int × Int)) : Prop where
  val : ∀ p, p.1 ≠ p.2 → (Wt' p).getD 0 = (ks.map fun k => if renP x y k = p then (Wt k).getD 0 else 0).sum
  key : ∀ p, Wt' p ≠ none → p.1 ≠ p.2 ∧ ∃ k, Wt k ≠ none ∧ renP x y k = p
theorem WSum.start {x y : Int} {Wt : Int × Int → Option Int} : WSum x y Wt (fun _ => none) [] := ⟨fun p _ => by simp, fun p h => absurd rfl h⟩
theorem WSum.skip {x y : Int} {Wt Wt' : Int × Int → Option Int} {ks : List (Int × Int)} (h : WSum x y Wt Wt' ks) {k r : Int × Int} (hr : renP x y k = r) (he : r.1 = r.2) : WSum x y Wt Wt' (k :: ks) :=
  ⟨fun p hp => by rw [h.val p hp, List.map_cons, List.sum_cons, if_neg (fun e => hp (by rw [← e, hr]; exact he))]; omega, h.key⟩
theorem WSum.add {x y : Int} {Wt Wt' : Int × Int → Option Int} {ks : List (Int × Int)} (h : WSum x y Wt Wt' ks) {k r : Int × Int} {v : Int} (hk : Wt k = some v) (hr : renP x y k = r) (he : r.1 ≠ r.2) : WSum x y Wt (fun p => if p = r then some ((Wt' r).getD 0 + v) else Wt' p) (k :: ks) :=
  ⟨fun p hp => by
    rw [List.map_cons, List.sum_cons, ← h.val p hp, hr, hk]
    by_cases e : p = r
    · subst e; simp; omega
    · simp [e, Ne.symm e], fun p hp => by
    by_cases e : p = r
    · subst e; exact ⟨he, k, by rw [hk]; simp, hr⟩
    · simp only [e, if_false] at hp; exact h.key p hp⟩
theorem WSum.bound {x y : Int} {Wt Wt' : Int × Int → Option Int} {ks : List (Int × Int)} (h : WSum x y Wt Wt' ks) (hB : ∀ p, -160000000000000 ≤ (Wt p).getD 0 ∧ (Wt p).getD 0 ≤ 160000000000000) (hl : ks.length ≤ 1600) {p : Int × Int} (hp : p.1 ≠ p.2) : -256000000000000000 ≤ (Wt' p).getD 0 ∧ (Wt' p).getD 0 ≤ 256000000000000000 := by
  rw [h.val p hp]
  have := sum_le (f := fun k => if renP x y k = p then (Wt k).getD 0 else 0) (B := 160000000000000) (fun k => by
    have := hB k
    split <;> omega) ks
  omega
theorem WSum.done {x y : Int} {Wt Wt' : Int × Int → Option Int} {ks : List (Int × Int)} (h : WSum x y Wt Wt' ks) {q : Nat} (hn : ks.Nodup) (hk : ∀ k, Wt k ≠ none → k ∈ ks) (hg : ∀ k, Wt k ≠ none → k ∈ grid q) {p : Int × Int} (hp : p.1 ≠ p.2) : (Wt' p).getD 0 = gsum q fun k => if renP x y k = p then (Wt k).getD 0 else 0 := by
  rw [h.val p hp]
  refine gsum_list hn fun k hk' => ?_
  have hne : Wt k ≠ none := fun e => hk' (by rw [e]; simp)
  exact ⟨hk k hne, hg k hne⟩
theorem GInv.bound {q : Nat} {WT : Int × Int → Option Int} {AP : Int × Int → Option Bool} {cl : List Int} {hd : Int → Int} {Wt : Int × Int → Option Int} {At : Int × Int → Option Bool} (I : GInv q WT AP cl hd Wt At) (hq : q ≤ 40) (hbW : ∀ p, -100000000000 ≤ (WT p).getD 0 ∧ (WT p).getD 0 ≤ 100000000000) (p : Int × Int) : -160000000000000 ≤ (Wt p).getD 0 ∧ (Wt p).getD 0 ≤ 160000000000000 := by
  cases hw : Wt p with
  | none => simp
  | some v =>
    have hlt := (I.wkey p (by rw [hw]; simp)).1
    rw [← hw, I.wval p (by omega)]
    unfold WG gsum
    have := sum_le (f := fun p' : Int × Int => if p'.1 ∈ cl ∧ p'.2 ∈ cl ∧ ordP (hd p'.1) (hd p'.2) = p then (WT p').getD 0 else 0) (B := 100000000000) (fun k => by
      have := hbW k
      split <;> omega) (grid q)
    rw [length_grid] at this
    have hqq : q * q ≤ 40 * 40 := Nat.mul_le_mul hq hq
    omega
/-- What greedy's apart map holds after the keys ks have been renamed in it. -/
structure ARen (x y : Int) (At At' : Int × Int → Option Bool) (ks : List (Int × Int)) : Prop where
  key : ∀ p, At' p ≠ none ↔ At p ≠ none ∨ ∃ k, k ∈ ks ∧ renP x y k = p
  val : ∀ p b, At' p = some b → b = true
theorem ARen.start {x y : Int} {At : Int × Int → Option Bool} (h : ∀ p b, At p = some b → b = true) : ARen x y At At [] := ⟨fun p => by simp, h⟩
theorem ARen.add {x y : Int} {At At' : Int × Int → Option Bool} {ks : List (Int × Int)} (h : ARen x y At At' ks) {k r : Int × Int} (hr : renP x y k = r) : ARen x y At (fun p => if p = r then some true else At' p) (ks ++ [k]) :=
  ⟨fun p => by
    by_cases e : p = r
    · subst e; exact ⟨fun _ => .inr ⟨k, by simp, hr⟩, fun _ => by simp⟩
    · simp only [e, if_false]
      rw [h.key p]
      constructor
      · rintro (h | ⟨k', h, e'⟩)
        · exact .inl h
        · exact .inr ⟨k', List.mem_append_left _ h, e'⟩
      · rintro (h | ⟨k', h, e'⟩)
        · exact .inl h
        · rcases List.mem_append.1 h with h | h
          · exact .inr ⟨k', h, e'⟩
          · rw [List.mem_singleton.1 h, hr] at e'; exact absurd e'.symm e, fun p b hb => by
    by_cases e : p = r
    · simp [e] at hb; exact hb
    · simp only [e, if_false] at hb; exact h.val p b hb⟩
theorem filter_less {α : Type} {p p' : α → Bool} (h : ∀ c, p' c = true → p c = true) : ∀ l : List α, (l.filter p').length ≤ (l.filter p).length
  | [] => Nat.le_refl _
  | c :: l => by
    have ih := filter_less h l
    rw [List.filter_cons, List.filter_cons]
    by_cases hp' : p' c = true
    · rw [if_pos hp', if_pos (h c hp')]; simpa using ih
    · rw [if_neg hp']
      split
      · simp; omega
      · exact ih
theorem filter_lt {α : Type} {p p' : α → Bool} (h : ∀ c, p' c = true → p c = true) {y : α} (hy : p y = true) (hy' : p' y = false) : ∀ l : List α, y ∈ l → (l.filter p').length < (l.filter p).length
  | c :: l, hm => by
    rw [List.filter_cons, List.filter_cons]
    rcases List.mem_cons.1 hm with rfl | hm
    · rw [if_neg (by rw [hy']; simp), if_pos hy]
      have := filter_less h l
      simp; omega
    · have ih := filter_lt h hy hy' l hm
      by_cases hp' : p' c = true
      · rw [if_pos hp', if_pos (h c hp')]; simpa using ih
      · rw [if_neg hp']
        split
        · simp; omega
        · exact ih
theorem heads_less {cl : List Int} {hd : Int → Int} {x y : Int} (hy : y ∈ cl) (hhy : hd y = y) (hhx : hd x = x) (hxy : x < y) : heads cl (fun c => subst x y (hd c)) < heads cl hd := by
  refine filter_lt (y := y) (fun c h => ?_) (by simpa using hhy) (by simp [hhy, subst]; omega) cl hy
  simp only [decide_eq_true_eq] at h ⊢
  unfold subst at h
  split at h
  · rename_i e; subst h; rw [hhx] at e; omega
  · exact h
theorem best_of {q : Nat} {WT : Int × Int → Option Int} {AP : Int × Int → Option Bool} {cl : List Int} {hd : Int → Int} {Wt : Int × Int → Option Int} {At : Int × Int → Option Bool} {nx : Int × Int} {most : Int} (GI : GInv q WT AP cl hd Wt At) (h0 : 0 < most) (hWn : Wt nx = some most) (hAn : (At nx).getD false = false)
    (hb : ∀ p x, Wt p = some x → (At p).getD false = false → x < most ∨ (x = most ∧ cmpP nx p ≤ 0)) : Best q WT AP cl hd nx := by
  obtain ⟨h1, h2, h3, h4, h5⟩ := GI.wkey nx (by rw [hWn]; simp)
  have hno : ∀ p, (At p).getD false = false → At p = none := fun p h => by
    cases ha : At p with
    | none => rfl
    | some b => rw [ha, GI.aval p b ha] at h; simp at h
  have hw : WG q WT cl hd nx = most := by rw [← GI.wval nx (by omega), hWn]; rfl
  refine ⟨⟨h2, h3, h4, h5, h1, fun h => (GI.akey nx h4 h5).2 h (hno nx hAn)⟩, by rw [hw]; exact h0, fun p' hp => ?_⟩
  have hn : At p' = none := by
    cases ha : At p' with
    | none => rfl
    | some b => exact absurd ((GI.akey p' hp.h1 hp.h2).1 (by rw [ha]; simp)) hp.ap
  have hlt := hp.lt
  rw [hw, ← GI.wval p' (by omega)]
  cases hk : Wt p' with
  | none => left; simpa using h0
  | some v => simpa using hb p' v hk (by rw [hn]; rfl)

end Go.Proofs.Ytiapdpbcnbgdmaa

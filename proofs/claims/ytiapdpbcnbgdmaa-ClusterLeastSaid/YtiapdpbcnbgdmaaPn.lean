import Derived.Test.YtiapdpbcnbgdmaaPm
set_option linter.unusedVariables false
set_option linter.unusedSimpArgs false
namespace Go.Proofs.Ytiapdpbcnbgdmaa
open Go.RowKit

/-! The solvers answer one row of heads; what it hangs on. -/
section
variable {q : Nat} {WT WT' : Int × Int → Option Int} {AP AP' : Int × Int → Option Bool} {cl : List Int}
theorem WG_congr (hW : ∀ a ∈ cl, ∀ b ∈ cl, (WT (a, b)).getD 0 = (WT' (a, b)).getD 0) (hd : Int → Int) (p : Int × Int) : WG q WT cl hd p = WG q WT' cl hd p := by
  refine sum_congr fun p' _ => ?_
  by_cases h : p'.1 ∈ cl ∧ p'.2 ∈ cl ∧ ordP (hd p'.1) (hd p'.2) = p
  · rw [if_pos h, if_pos h]; exact hW _ h.1 _ h.2.1
  · rw [if_neg h, if_neg h]
theorem Best.weights (hW : ∀ a ∈ cl, ∀ b ∈ cl, (WT (a, b)).getD 0 = (WT' (a, b)).getD 0) {hd : Int → Int} {p : Int × Int} (h : Best q WT AP cl hd p) : Best q WT' AP cl hd p :=
  ⟨h.cand, by rw [← WG_congr hW]; exact h.pos, fun p' hp' => by rw [← WG_congr hW, ← WG_congr hW]; exact h.best p' hp'⟩
theorem GRun.weights (hW : ∀ a ∈ cl, ∀ b ∈ cl, (WT (a, b)).getD 0 = (WT' (a, b)).getD 0) {hd hd' : Int → Int} (h : GRun q WT AP cl hd hd') : GRun q WT' AP cl hd hd' := by
  induction h with
  | stop hs => exact .stop fun p hp => by rw [← WG_congr hW]; exact hs p hp
  | step hb _ ih => exact .step (hb.weights hW) ih
theorem cmpP_eq {p p' : Int × Int} (h : cmpP p p' ≤ 0) (h' : cmpP p' p ≤ 0) : p = p' := by
  unfold cmpP cmpI at *
  apply Prod.ext
  · repeat' split at h
    all_goals (repeat' split at h')
    all_goals omega
  · repeat' split at h
    all_goals (repeat' split at h')
    all_goals omega
theorem Best.uniq {hd : Int → Int} {p p' : Int × Int} (h : Best q WT AP cl hd p) (h' : Best q WT AP cl hd p') : p = p' := by
  rcases h.best p' h'.cand with h1 | ⟨h1, h2⟩
  · rcases h'.best p h.cand with h3 | ⟨h3, _⟩ <;> omega
  · rcases h'.best p h.cand with h3 | ⟨_, h4⟩
    · omega
    · exact cmpP_eq h2 h4
theorem GRun.uniq {hd f g : Int → Int} (h : GRun q WT AP cl hd f) : GRun q WT AP cl hd g → f = g := by
  induction h with
  | stop hs =>
    intro h'
    cases h' with
    | stop _ => rfl
    | step hb _ => have := hs _ hb.cand; have := hb.pos; omega
  | step hb _ ih =>
    intro h'
    cases h' with
    | stop hs => have := hs _ hb.cand; have := hb.pos; omega
    | step hb' hr =>
      obtain rfl := hb.uniq hb'
      exact ih hr
theorem GRun.together {hd f : Int → Int} (h : GRun q WT AP cl hd f) {x y : Int} : hd x = hd y → f x = f y := by
  induction h with
  | stop _ => exact id
  | step _ _ ih => intro e; exact ih (by simp only [e])
theorem GRun.out {hd f : Int → Int} (h : GRun q WT AP cl hd f) : (∀ c, c ∉ cl → hd c = c) → ∀ c, c ∉ cl → f c = c := by
  induction h with
  | stop _ => exact id
  | @step hd hd' p hb _ ih =>
    intro ho
    refine ih fun c hc => ?_
    show subst _ _ (hd c) = c
    rw [ho c hc]
    unfold subst
    rw [if_neg (fun e => hc (by rw [e]; exact hb.cand.in2))]
/-- A pair of classes in different clusters of the answer may be decided to be apart. -/
theorem GRun.further {hd f : Int → Int} {a b : Int} (hAP : ∀ p, AP' p ≠ none ↔ AP p ≠ none ∨ p = ordP a b) (h : GRun q WT AP cl hd f) : f a ≠ f b → GRun q WT AP' cl hd f := by
  have hsub : ∀ {hd : Int → Int} {p : Int × Int}, Cand AP' cl hd p → Cand AP cl hd p := fun {hd p} hc => ⟨hc.in1, hc.in2, hc.h1, hc.h2, hc.lt, fun ⟨p', h1, h2⟩ => hc.ap ⟨p', (hAP p').2 (.inl h1), h2⟩⟩
  induction h with
  | stop hs => intro _; exact .stop fun p hp => hs p (hsub hp)
  | @step hd hd' p hb hr ih =>
    intro hne
    refine .step ⟨⟨hb.cand.in1, hb.cand.in2, hb.cand.h1, hb.cand.h2, hb.cand.lt, ?_⟩, hb.pos, fun p' hp' => hb.best p' (hsub hp')⟩ (ih hne)
    rintro ⟨p', h1, h2⟩
    rcases (hAP p').1 h1 with h | rfl
    · exact hb.cand.ap ⟨p', h, h2⟩
    · refine hne (hr.together ?_)
      show subst p.1 p.2 (hd a) = subst p.1 p.2 (hd b)
      have ho := (ordP_eq (a := hd (ordP a b).1) (b := hd (ordP a b).2) hb.cand.lt).1 h2
      have hlt := hb.cand.lt
      unfold ordP at ho
      simp only at ho
      unfold subst
      rcases Int.le_total a b with hab | hab
      · rw [Int.min_eq_left hab, Int.max_eq_right hab] at ho
        split <;> split <;> omega
      · rw [Int.min_eq_right hab, Int.max_eq_left hab] at ho
        split <;> split <;> omega
theorem keptIn_congr {x : List Int} {i : Nat} (hi : i < cl.length) (hW : ∀ a ∈ cl, ∀ b ∈ cl, (WT (a, b)).getD 0 = (WT' (a, b)).getD 0) : ∀ k, k ≤ i → keptIn WT cl x i k = keptIn WT' cl x i k
  | 0, _ => rfl
  | k + 1, hk => by
    rw [keptIn, keptIn, keptIn_congr hi hW k (by omega), hW _ (nth_mem (show k < cl.length by omega)) _ (nth_mem hi)]
theorem keptTo_congr {x : List Int} (hW : ∀ a ∈ cl, ∀ b ∈ cl, (WT (a, b)).getD 0 = (WT' (a, b)).getD 0) : ∀ n, n ≤ cl.length → keptTo WT cl x n = keptTo WT' cl x n
  | 0, _ => rfl
  | n + 1, hn => by rw [keptTo, keptTo, keptTo_congr hW n (by omega), keptIn_congr (by omega) hW n (Nat.le_refl _)]
theorem bestOf_congr (hW : ∀ a ∈ cl, ∀ b ∈ cl, (WT (a, b)).getD 0 = (WT' (a, b)).getD 0) (xs : List (List Int)) : bestOf WT cl cl.length xs = bestOf WT' cl cl.length xs := by
  unfold bestOf
  have : bestStep WT cl cl.length = bestStep WT' cl cl.length := by
    funext o x
    cases o with
    | none => simp only [bestStep, keptTo_congr hW _ (Nat.le_refl _)]
    | some p => obtain ⟨b, l⟩ := p; simp only [bestStep, keptTo_congr hW _ (Nat.le_refl _)]
  rw [this]
theorem Solved.weights {hs : List Int} (hW : ∀ a ∈ cl, ∀ b ∈ cl, (WT (a, b)).getD 0 = (WT' (a, b)).getD 0) (h : Solved q WT AP cl hs) : Solved q WT' AP cl hs := by
  rcases h with ⟨h1, l, h2⟩ | ⟨h1, f, h2, h3⟩
  · exact .inl ⟨h1, l, by rw [← bestOf_congr hW]; exact h2⟩
  · exact .inr ⟨h1, f, h2.weights hW, h3⟩
theorem Solved.uniq {hs hs' : List Int} (h : Solved q WT AP cl hs) (h' : Solved q WT AP cl hs') : hs = hs' := by
  rcases h with ⟨h1, l, h2⟩ | ⟨h1, f, h2, rfl⟩
  · rcases h' with ⟨_, l', h3⟩ | ⟨h3, _⟩
    · rw [h2] at h3; exact congrArg Prod.fst (Option.some.inj h3)
    · omega
  · rcases h' with ⟨h3, _⟩ | ⟨_, g, h3, rfl⟩
    · omega
    · rw [h2.uniq h3]
/-! the first of the best ones -/
theorem bestOf_start {W : Int × Int → Option Int} {n : Nat} : ∀ (xs : List (List Int)) (b : List Int), (∀ x ∈ xs, keptTo W cl x n ≤ keptTo W cl b n) → xs.foldl (bestStep W cl n) (some (b, -keptTo W cl b n)) = some (b, -keptTo W cl b n)
  | [], _, _ => rfl
  | y :: xs, b, h => by
    have hy := h y (List.mem_cons_self ..)
    rw [List.foldl_cons, show bestStep W cl n (some (b, -keptTo W cl b n)) y = some (b, -keptTo W cl b n) by simp [bestStep]; omega]
    exact bestOf_start xs b fun x hx => h x (List.mem_cons_of_mem _ hx)
theorem bestOf_split {W : Int × Int → Option Int} {n : Nat} {b : List Int} {post : List (List Int)} (hpost : ∀ x ∈ post, keptTo W cl x n ≤ keptTo W cl b n) : ∀ pre : List (List Int), (∀ x ∈ pre, keptTo W cl x n < keptTo W cl b n) → bestOf W cl n (pre ++ b :: post) = some (b, -keptTo W cl b n) := by
  intro pre hpre
  unfold bestOf
  rw [List.foldl_append, List.foldl_cons]
  have : bestStep W cl n (pre.foldl (bestStep W cl n) none) b = some (b, -keptTo W cl b n) := by
    cases pre with
    | nil => rfl
    | cons y pre =>
      obtain ⟨c, h1, h2, _⟩ := bestOf_inv (W := W) (cl := cl) (n := n) (y :: pre) (by simp)
      unfold bestOf at h1
      rw [h1]
      have := hpre c h2
      simp [bestStep]
      omega
  rw [this]
  exact bestOf_start post b hpost
/-- .. and every answer is one of them -/
theorem bestOf_parts {W : Int × Int → Option Int} {n : Nat} {b : List Int} {l : Int} : ∀ xs : List (List Int), bestOf W cl n xs = some (b, l) → ∃ pre post, xs = pre ++ b :: post ∧ (∀ x ∈ pre, keptTo W cl x n < keptTo W cl b n) ∧ ∀ x ∈ post, keptTo W cl x n ≤ keptTo W cl b n := by
  intro xs h
  -- split at the first of the greatest
  obtain ⟨c, h1, h2, h3⟩ := bestOf_inv (W := W) (cl := cl) (n := n) xs (fun e => by rw [e] at h; cases h)
  have hfirst : ∀ ys : List (List Int), (∃ x ∈ ys, keptTo W cl x n = keptTo W cl c n) → (∀ x ∈ ys, keptTo W cl x n ≤ keptTo W cl c n) → ∃ pre d post, ys = pre ++ d :: post ∧ keptTo W cl d n = keptTo W cl c n ∧ ∀ x ∈ pre, keptTo W cl x n < keptTo W cl c n := by
    intro ys
    induction ys with
    | nil => rintro ⟨x, hx, _⟩; simp at hx
    | cons y ys ih =>
      rintro ⟨x, hx, e⟩ hle
      by_cases ey : keptTo W cl y n = keptTo W cl c n
      · exact ⟨[], y, ys, rfl, ey, fun x hx => by simp at hx⟩
      · have hx' : x ∈ ys := by rcases List.mem_cons.1 hx with rfl | h; exact absurd e ey; exact h
        obtain ⟨pre, d, post, e1, e2, e3⟩ := ih ⟨x, hx', e⟩ (fun z hz => hle z (List.mem_cons_of_mem _ hz))
        refine ⟨y :: pre, d, post, by rw [e1]; rfl, e2, fun z hz => ?_⟩
        rcases List.mem_cons.1 hz with rfl | hz
        · have := hle z (List.mem_cons_self ..); omega
        · exact e3 z hz
  obtain ⟨pre, d, post, e1, e2, e3⟩ := hfirst xs ⟨c, h2, rfl⟩ h3
  have hp : ∀ x ∈ post, keptTo W cl x n ≤ keptTo W cl d n := fun x hx => by rw [e2]; exact h3 x (by rw [e1]; simp [hx])
  have := bestOf_split hp pre (fun x hx => by rw [e2]; exact e3 x hx)
  rw [← e1, h] at this
  obtain rfl : b = d := congrArg Prod.fst (Option.some.inj this)
  exact ⟨pre, post, e1, fun x hx => by rw [e2]; exact e3 x hx, hp⟩
theorem bestOf_filter {W : Int × Int → Option Int} {n : Nat} {b : List Int} {l : Int} {xs : List (List Int)} (P : List Int → Bool) (h : bestOf W cl n xs = some (b, l)) (hb : P b = true) : ∃ l', bestOf W cl n (xs.filter P) = some (b, l') := by
  obtain ⟨pre, post, rfl, h1, h2⟩ := bestOf_parts xs h
  rw [List.filter_append, List.filter_cons, if_pos hb]
  exact ⟨_, bestOf_split (fun x hx => h2 x ((List.mem_filter.1 hx).1)) _ (fun x hx => h1 x ((List.mem_filter.1 hx).1))⟩
/-- no clash from an index on -/
def noClash (AP : Int × Int → Option Bool) (cl : List Int) (j : Nat) (x : List Int) : Bool := (List.range x.length).all fun i => decide (i < j) || !clashB AP cl x i
theorem noClash_iff {j : Nat} {x : List Int} : noClash AP cl j x = true ↔ ∀ i, j ≤ i → i < x.length → clashB AP cl x i = false := by
  unfold noClash
  rw [List.all_eq_true]
  constructor
  · intro h i h1 h2
    have := h i (List.mem_range.2 h2)
    simp only [Bool.or_eq_true, decide_eq_true_eq, Bool.not_eq_true'] at this
    rcases this with h | h
    · omega
    · exact h
  · intro h i hi
    have hi := List.mem_range.1 hi
    simp only [Bool.or_eq_true, decide_eq_true_eq, Bool.not_eq_true']
    rcases Nat.lt_or_ge i j with h' | h'
    · exact .inl h'
    · exact .inr (h i h' hi)
theorem enum_filter (hsub : ∀ x i, clashB AP cl x i = true → clashB AP' cl x i = true) : ∀ (d : Nat) (pfx : List Int), enum AP' cl d pfx = (enum AP cl d pfx).filter (noClash AP' cl pfx.length)
  | 0, pfx => by
    have : noClash AP' cl pfx.length pfx = true := noClash_iff.2 fun i h1 h2 => by omega
    rw [enum, enum, List.filter_cons, if_pos this, List.filter_nil]
  | d + 1, pfx => by
    rw [enum, enum, List.filter_flatMap]
    refine congrArg (fun f => (List.range (pfx.length + 1)).flatMap f) ?_
    funext k
    by_cases h1 : k < pfx.length ∧ nth pfx k ≠ nth cl k
    · rw [if_pos h1, if_pos h1]; rfl
    · rw [if_neg h1, if_neg h1]
      have hlen : (pfx ++ [nth cl k]).length = pfx.length + 1 := by simp
      have hpx : ∀ x ∈ enum AP cl d (pfx ++ [nth cl k]), clashB AP' cl x pfx.length = clashB AP' cl (pfx ++ [nth cl k]) pfx.length ∧ pfx.length < x.length := fun x hx => by
        obtain ⟨e1, e2, _⟩ := (mem_enum d _ x).1 hx
        rw [hlen] at e1 e2
        refine ⟨clashB_congr' fun i hi => ?_, by omega⟩
        rw [← e2]
        unfold nth
        rw [List.getD_eq_getElem?_getD, List.getD_eq_getElem?_getD, List.getElem?_take_of_lt (by omega)]
      by_cases h2 : clashB AP' cl (pfx ++ [nth cl k]) pfx.length = true
      · rw [if_pos h2]
        by_cases h3 : clashB AP cl (pfx ++ [nth cl k]) pfx.length = true
        · rw [if_pos h3]; rfl
        · rw [if_neg h3]
          symm
          rw [List.filter_eq_nil_iff]
          intro x hx hn
          have := noClash_iff.1 hn pfx.length (Nat.le_refl _) (hpx x hx).2
          rw [(hpx x hx).1, h2] at this
          cases this
      · have h3 : ¬ clashB AP cl (pfx ++ [nth cl k]) pfx.length = true := fun h => h2 (hsub _ _ h)
        rw [if_neg h2, if_neg h3, enum_filter hsub d]
        refine List.filter_congr fun x hx => ?_
        rw [Bool.eq_iff_iff, noClash_iff, noClash_iff, hlen]
        constructor
        · intro h i hi1 hi2
          rcases Nat.lt_or_eq_of_le hi1 with h' | rfl
          · exact h i (by omega) hi2
          · rw [(hpx x hx).1]; simpa using h2
        · intro h i hi1 hi2
          exact h i (by omega) hi2
theorem clashB_iff {x : List Int} {i : Nat} : clashB AP cl x i = true ↔ ∃ k, k < i ∧ nth x k = nth x i ∧ (AP (apK cl k i)).getD false = true := by
  unfold clashB
  rw [List.any_eq_true]
  constructor
  · rintro ⟨k, hk, h⟩
    unfold clashK at h
    simp only [Bool.and_eq_true, decide_eq_true_eq] at h
    exact ⟨k, List.mem_range.1 hk, h.1, h.2⟩
  · rintro ⟨k, hk, h1, h2⟩
    refine ⟨k, List.mem_range.2 hk, ?_⟩
    unfold clashK
    simp only [Bool.and_eq_true, decide_eq_true_eq]
    exact ⟨h1, h2⟩
/-- A decision that the answer obeys changes nothing. -/
theorem Solved.further {hs : List Int} {f : Int → Int} {a b : Int} (hn : cl.Nodup) (hAv : ∀ p x, AP p = some x → x = true) (hAv' : ∀ p x, AP' p = some x → x = true) (hAP : ∀ p, AP' p ≠ none ↔ AP p ≠ none ∨ p = ordP a b) (hf : ∀ i, i < cl.length → f (nth cl i) = nth hs i)
    (hab : a ∈ cl → b ∈ cl → f a ≠ f b) (hne : a ≠ b) (hin : ∀ c ∈ cl, f c ∈ cl) (h : Solved q WT AP cl hs) : Solved q WT AP' cl hs := by
  have hg : ∀ {A : Int × Int → Option Bool} (hv : ∀ p x, A p = some x → x = true) (p : Int × Int), (A p).getD false = true ↔ A p ≠ none := fun {A} hv p => by
    cases hp : A p with
    | none => simp
    | some x => rw [hv p x hp]; simp
  rcases h with ⟨h1, l, h2⟩ | ⟨h1, g, h2, rfl⟩
  · have hsub : ∀ x i, clashB AP cl x i = true → clashB AP' cl x i = true := fun x i h => by
      obtain ⟨k, e1, e2, e3⟩ := clashB_iff.1 h
      exact clashB_iff.2 ⟨k, e1, e2, (hg hAv' _).2 ((hAP _).2 (.inl ((hg hAv _).1 e3)))⟩
    have hmem : hs ∈ enum AP cl cl.length [] := by
      obtain ⟨pre, post, e, _⟩ := bestOf_parts _ h2
      rw [e]; simp
    obtain ⟨el, _, eE⟩ := (mem_enum _ _ _).1 hmem
    have el : hs.length = cl.length := by simpa using el
    have hnc : noClash AP' cl 0 hs = true := noClash_iff.2 fun i _ hi => by
      rw [← Bool.not_eq_true]
      intro hc
      obtain ⟨k, e1, e2, e3⟩ := clashB_iff.1 hc
      rcases (hAP _).1 ((hg hAv' _).1 e3) with h | h
      · have := (eE i (Nat.zero_le _) hi).2
        rw [clashB_iff.2 ⟨k, e1, e2, (hg hAv _).2 h⟩] at this
        cases this
      · have m1 := nth_mem (show k < cl.length by omega)
        have m2 := nth_mem (show i < cl.length by omega)
        rw [← hf k (by omega), ← hf i (by omega)] at e2
        unfold apK ordP at h
        have h3 := congrArg Prod.fst h
        have h4 := congrArg Prod.snd h
        simp only at h3 h4
        have : (nth cl k = a ∧ nth cl i = b) ∨ (nth cl k = b ∧ nth cl i = a) := by omega
        rcases this with ⟨e4, e5⟩ | ⟨e4, e5⟩
        · rw [e4] at m1 e2; rw [e5] at m2 e2; exact hab m1 m2 e2
        · rw [e4] at m1 e2; rw [e5] at m2 e2; exact hab m2 m1 e2.symm
    obtain ⟨l', h3⟩ := bestOf_filter (noClash AP' cl 0) h2 hnc
    have hef := enum_filter hsub cl.length []
    rw [List.length_nil] at hef
    rw [← hef] at h3
    exact .inl ⟨h1, l', h3⟩
  · refine .inr ⟨h1, g, h2.further hAP ?_, rfl⟩
    have hfg : ∀ c ∈ cl, f c = g c := fun c hc => by
      obtain ⟨i, hi, rfl⟩ := nth_of_mem hc
      rw [hf i hi]
      simp [nth, List.getD_eq_getElem?_getD, hi]
    have ho := h2.out (fun c _ => rfl)
    by_cases ha : a ∈ cl
    · by_cases hb : b ∈ cl
      · rw [← hfg a ha, ← hfg b hb]; exact hab ha hb
      · rw [ho b hb, ← hfg a ha]
        intro e
        exact hb (by rw [← e]; exact hin a ha)
    · rw [ho a ha]
      by_cases hb : b ∈ cl
      · rw [← hfg b hb]
        intro e
        exact ha (by rw [e]; exact hin b hb)
      · rw [ho b hb]; exact hne
end

end Go.Proofs.Ytiapdpbcnbgdmaa

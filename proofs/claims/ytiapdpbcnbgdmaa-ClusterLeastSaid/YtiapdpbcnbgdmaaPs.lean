import Derived.Test.YtiapdpbcnbgdmaaPo
set_option linter.unusedVariables false
set_option linter.unusedSimpArgs false
namespace Go.Proofs.Ytiapdpbcnbgdmaa
open Go.RowKit

/-! THE LAW 'Least'. -/
section
variable {q : Nat} {WT : Int × Int → Option Int} {AP : Int × Int → Option Bool} {cl : List Int}
theorem nth_get {xs : List Int} {k : Nat} (h : k < xs.length) : nth xs k = xs[k] := by simp [nth, List.getD_eq_getElem?_getD, List.getElem?_eq_getElem h]
def firstOf (cl : List Int) (f : Int → Int) (c : Int) : Nat := cl.findIdx fun d => decide (f d = f c)
theorem firstOf_spec {f : Int → Int} {i : Nat} (hi : i < cl.length) : firstOf cl f (nth cl i) ≤ i ∧ f (nth cl (firstOf cl f (nth cl i))) = f (nth cl i) := by
  have hex : firstOf cl f (nth cl i) < cl.length := List.findIdx_lt_length_of_exists ⟨nth cl i, nth_mem hi, by simp⟩
  have hp : decide (f cl[firstOf cl f (nth cl i)] = f (nth cl i)) = true := List.findIdx_getElem (w := hex)
  have e1 := nth_get hex
  refine ⟨?_, ?_⟩
  · rcases Nat.lt_or_ge i (firstOf cl f (nth cl i)) with h | h
    · have := List.not_of_lt_findIdx h
      have e2 := nth_get hi
      rw [← e2] at this
      simp at this
    · exact h
  · rw [e1]; simpa using hp
theorem firstOf_congr {f : Int → Int} {c d : Int} (h : f c = f d) : firstOf cl f c = firstOf cl f d := by unfold firstOf; rw [h]
theorem Solved.least {hs : List Int} {hd f : Int → Int} (h8 : cl.length ≤ 8) (hp : cl.Pairwise (· < ·)) (hr : ∀ c ∈ cl, 0 ≤ c ∧ c < q) (hW : ∀ p, WT p ≠ none → p.1 < p.2) (h : Solved q WT AP cl hs) (hf : ∀ i, i < cl.length → hd (nth cl i) = nth hs i)
    (hap : ∀ a ∈ cl, ∀ b ∈ cl, a < b → (AP (a, b)).getD false = true → f a ≠ f b) : kept q WT cl f ≤ kept q WT cl hd := by
  have hn : cl.Nodup := by rw [List.nodup_iff_pairwise_ne]; exact hp.imp fun h => by omega
  rcases h with ⟨_, l, h⟩ | ⟨h, _⟩
  · obtain ⟨x, hx⟩ : ∃ x, x = cl.map fun c => nth cl (firstOf cl f c) := ⟨_, rfl⟩
    have hxl : x.length = cl.length := by rw [hx, List.length_map]
    have hxi : ∀ i, i < cl.length → nth x i = nth cl (firstOf cl f (nth cl i)) := fun i hi => by
      rw [hx]; simp [nth, List.getD_eq_getElem?_getD, List.getElem?_eq_getElem hi]
    have hmem : x ∈ enum AP cl cl.length [] := by
      rw [mem_enum]
      refine ⟨by simpa using hxl, by simp, fun i _ hi => ?_⟩
      have hi : i < cl.length := by omega
      obtain ⟨k1, k2⟩ := firstOf_spec (f := f) hi
      refine ⟨⟨_, k1, hxi i hi, fun hlt => ?_⟩, ?_⟩
      · rw [hxi _ (by omega), firstOf_congr k2]
      · rw [← Bool.not_eq_true]
        intro hc
        obtain ⟨k, e1, e2, e3⟩ := clashB_iff.1 hc
        rw [hxi k (by omega), hxi i hi] at e2
        have e4 := (firstOf_spec (f := f) (show k < cl.length by omega)).2
        rw [e2, k2] at e4
        have hlt := (lt_of_nth hp (show k < cl.length by omega) hi).2 e1
        have ek : apK cl k i = (nth cl k, nth cl i) := by unfold apK; apply Prod.ext <;> simp only <;> omega
        rw [ek] at e3
        exact hap _ (nth_mem (by omega)) _ (nth_mem hi) hlt e3 e4.symm
    obtain ⟨pre, post, e, hb1, hb2⟩ := bestOf_parts _ h
    have hle : keptTo WT cl x cl.length ≤ keptTo WT cl hs cl.length := by
      rw [e] at hmem
      rcases List.mem_append.1 hmem with hm | hm
      · exact Int.le_of_lt (hb1 x hm)
      · rcases List.mem_cons.1 hm with rfl | hm
        · exact Int.le_refl _
        · exact hb2 x hm
    rw [keptTo_eq (f := fun c => nth cl (firstOf cl f c)) hp hr hW (fun i hi => (hxi i hi).symm), keptTo_eq hp hr hW hf] at hle
    rw [kept_congr (g := fun c => nth cl (firstOf cl f c)) (fun c hc d hd' => ?_)]
    · exact hle
    · obtain ⟨i, hi, rfl⟩ := nth_of_mem hc
      obtain ⟨j, hj, rfl⟩ := nth_of_mem hd'
      constructor
      · intro h'; rw [firstOf_congr h']
      · intro h'
        rw [← (firstOf_spec (f := f) hi).2, ← (firstOf_spec (f := f) hj).2, h']
  · omega
end
theorem cluster_least {es : List E3} {same ent entity : List Int} {ps : List (Int × Int)} (hg : goodB es same ps = true) (h : ClusterP es same ps ent) (hal : allowedB same ps entity = true) (hfew : ∀ ms, MarksOf es same ms → ∀ c ∈ comps ms same.length, (clsOf same ms same.length c).length ≤ 8) :
    costTo es ent es.length ≤ costTo es entity es.length := by
  have F := good_facts hg
  obtain ⟨ms, hd, hm, hl, he, A, hs, _⟩ := cluster_facts F h
  have hmk : MarkOk same same.length (Adj (wTo es same es.length)) ms := hm
  unfold allowedB at hal
  simp only [Bool.and_eq_true, decide_eq_true_eq, Bool.not_eq_true'] at hal
  obtain ⟨_, _, hle, _, hsm, hcl⟩ := hal
  have hcls : ∀ i, i < same.length → Cls same same.length (nth same i) := fun i hi => by
    have := same_cls F.v rfl (i := (i : Int)) (by omega) (by omega)
    simpa using this
  have hf : ∀ i, i < same.length → nth entity i = (fun c : Int => nth entity c.toNat) (nth same i) := fun i hi => by
    unfold sameB at hsm
    rw [List.all_eq_true] at hsm
    simpa using hsm i (List.mem_range.2 hi)
  have hap : ∀ a b, (aTo ps same ps.length (a, b)).getD false = true → nth entity a.toNat ≠ nth entity b.toNat := fun a b hab => by
    rw [aTo_all] at hab
    split at hab
    · rename_i hany
      obtain ⟨e, he', hk⟩ := List.any_eq_true.1 hany
      obtain ⟨j, hj, e1⟩ := List.getElem_of_mem he'
      have ej : pth ps j = e := by simp [pth, List.getD_eq_getElem?_getD, List.getElem?_eq_getElem hj, e1]
      rw [List.any_eq_false] at hcl
      have hcj := hcl j (List.mem_range.2 hj)
      obtain ⟨q1, q2, q3, q4⟩ := F.p j hj
      rw [ej] at hcj q1 q2 q3 q4
      unfold keyA at hk
      rw [decide_eq_true_iff] at hk
      obtain ⟨hne, hkey⟩ := hk
      unfold clashP at hcj
      rw [decide_eq_true_iff] at hcj
      have hne2 : nth entity e.1.toNat ≠ nth entity e.2.toNat := fun h => hcj ⟨hne, h⟩
      rw [hf _ (by omega), hf _ (by omega)] at hne2
      simp only at hne2
      have h1 := congrArg Prod.fst hkey
      have h2 := congrArg Prod.snd hkey
      simp only at h1 h2
      rcases Int.le_total (nth same e.1.toNat) (nth same e.2.toNat) with h' | h'
      · rw [Int.min_eq_left h'] at h1
        rw [Int.max_eq_right h'] at h2
        rw [h1, h2]; exact hne2
      · rw [Int.min_eq_right h'] at h1
        rw [Int.max_eq_left h'] at h2
        rw [h1, h2]; exact fun h => hne2 h.symm
    · simp at hab
  rw [cost_gk F.v rfl hl F.e he, cost_gk (f := fun c : Int => nth entity c.toNat) F.v rfl hle F.e hf]
  have h1 : gk same.length (wTo es same es.length) (fun c => nth entity c.toNat) ≤ gk same.length (wTo es same es.length) hd := by
    rw [gk_comps hmk F.wc, gk_comps hmk F.wc]
    have hc0 : (gsum same.length fun p => if hd p.1 = hd p.2 ∧ nth ms p.1.toNat ≠ nth ms p.2.toNat then (wTo es same es.length p).getD 0 else 0) = 0 := by
      unfold gsum
      rw [sum_congr (g := fun _ => 0) (fun p _ => ?_), sum_zero]
      by_cases e : hd p.1 = hd p.2 ∧ nth ms p.1.toNat ≠ nth ms p.2.toNat
      · rw [if_pos e]
        cases hw : wTo es same es.length p with
        | none => rfl
        | some x =>
          obtain ⟨c1, c2, _⟩ := F.wc p x hw
          have := A.mark _ c1
          rw [e.1, A.mark _ c2] at this
          exact absurd this.symm e.2
      · rw [if_neg e]
    rw [hc0]
    have hx := cross_le (f := fun c : Int => nth entity c.toNat) hmk F.wc
    have hsum := sum_le_sum (l := comps ms same.length) (f := fun c => kept same.length (wTo es same es.length) (clsOf same ms same.length c) fun c => nth entity c.toNat) (g := fun c => kept same.length (wTo es same es.length) (clsOf same ms same.length c) hd) (fun c hc => by
      obtain ⟨x, hx1, hx2⟩ := hs c hc
      exact hx1.least (hfew ms hm c hc) (pair_ixs _ _) cls_range F.wl hx2 (fun a ha b hb hlt hab => hap a b hab))
    omega
  omega

end Go.Proofs.Ytiapdpbcnbgdmaa

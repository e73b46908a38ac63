import Derived.Test.YtiapdpbcnbgdmaaPo
set_option linter.unusedVariables false
set_option linter.unusedSimpArgs false
namespace Go.Proofs.Ytiapdpbcnbgdmaa
open Go.RowKit

/-! THE LAW 'Strong'. -/
theorem nth_zero_least {xs : List Int} {c : Int} (hp : xs.Pairwise (· < ·)) (hc : c ∈ xs) (hl : ∀ x ∈ xs, c ≤ x) : nth xs 0 = c := by
  obtain ⟨i, hi, e⟩ := nth_of_mem hc
  have h0 := hl _ (nth_mem (show 0 < xs.length by omega))
  rcases Nat.eq_zero_or_pos i with rfl | h
  · exact e
  · have := (lt_of_nth hp (show 0 < xs.length by omega) hi).2 h
    omega
theorem MarkOk.least {same ms : List Int} {m : Nat} {R : Int → Int → Prop} (K : MarkOk same m R ms) (hv : ValidP same) (hl : same.length = m) {c x : Int} (hx : 0 ≤ x ∧ x < m ∧ nth ms x.toNat = c) : c ≤ x := by
  have := K.le hv hl (i := x.toNat) (by omega)
  omega
theorem recs_zero {same ms : List Int} {m : Nat} {R : Int → Int → Prop} (K : MarkOk same m R ms) (hv : ValidP same) (hl : same.length = m) {c : Int} (hc : c ∈ comps ms m) : nth (recs ms m c) 0 = c := by
  obtain ⟨k0, k1, k2⟩ := mem_comps.1 hc
  exact nth_zero_least (pair_ixs _ _) (mem_recs.2 ⟨k0, k1, k2⟩) fun x hx => K.least hv hl (mem_recs.1 hx)
theorem cls_zero {same ms : List Int} {m : Nat} {R : Int → Int → Prop} (K : MarkOk same m R ms) (hv : ValidP same) (hl : same.length = m) {c : Int} (hc : c ∈ comps ms m) : c ∈ clsOf same ms m c ∧ nth (clsOf same ms m c) 0 = c := by
  obtain ⟨k0, k1, k2⟩ := mem_comps.1 hc
  have h1 := (K.2 c.toNat (by omega)).1
  rw [k2] at h1
  have hm : c ∈ clsOf same ms m c := mem_cls.2 ⟨k0, k1, k2, h1.2.2⟩
  refine ⟨hm, nth_zero_least (pair_ixs _ _) hm fun x hx => ?_⟩
  obtain ⟨a, b, d, _⟩ := mem_cls.1 hx
  exact K.least hv hl ⟨a, b, d⟩
section
variable {q : Nat} {WT : Int × Int → Option Int} {AP : Int × Int → Option Bool} {cl : List Int}
theorem kept_mono {f g : Int → Int} (h0 : ∀ p, 0 ≤ (WT p).getD 0) (h : ∀ a ∈ cl, ∀ b ∈ cl, f a = f b → g a = g b) : kept q WT cl f ≤ kept q WT cl g := by
  refine sum_le_sum fun p _ => ?_
  have := h0 p
  by_cases hf : p.1 ∈ cl ∧ p.2 ∈ cl ∧ f p.1 = f p.2
  · rw [if_pos hf, if_pos ⟨hf.1, hf.2.1, h _ hf.1 _ hf.2.1 hf.2.2⟩]; exact Int.le_refl _
  · rw [if_neg hf]
    split <;> omega
theorem enum_head (hA : ∀ p, AP p = none) : ∀ (d : Nat) (pfx : List Int), (∀ i, i < pfx.length → nth pfx i = nth cl 0) → ∃ rest, enum AP cl d pfx = (pfx ++ List.replicate d (nth cl 0)) :: rest
  | 0, pfx, _ => ⟨[], by simp [enum]⟩
  | d + 1, pfx, hp => by
    have hpx : ∀ i, i < (pfx ++ [nth cl 0]).length → nth (pfx ++ [nth cl 0]) i = nth cl 0 := fun i hi => by
      simp only [List.length_append, List.length_cons, List.length_nil] at hi
      rcases Nat.lt_or_eq_of_le (Nat.le_of_lt_succ hi) with h | rfl
      · rw [nth_append_left h]; exact hp i h
      · exact nth_append_last
    obtain ⟨rest, hr⟩ := enum_head hA d (pfx ++ [nth cl 0]) hpx
    rw [enum, List.range_succ_eq_map, List.flatMap_cons]
    have hn : ¬ (0 < pfx.length ∧ nth pfx 0 ≠ nth cl 0) := fun h => h.2 (hp 0 h.1)
    have hc : ¬ clashB AP cl (pfx ++ [nth cl 0]) pfx.length = true := fun h => by
      obtain ⟨k, _, _, h3⟩ := clashB_iff.1 h
      rw [hA] at h3
      simp at h3
    rw [if_neg hn, if_neg hc, hr]
    rw [List.cons_append, List.append_assoc]
    exact ⟨_, rfl⟩
theorem Solved.strong {hs : List Int} {f : Int → Int} {c0 : Int} (hp : cl.Pairwise (· < ·)) (hr : ∀ c ∈ cl, 0 ≤ c ∧ c < q) (hW : ∀ p, WT p ≠ none → p.1 < p.2) (h0 : ∀ p, 0 ≤ (WT p).getD 0) (hA : ∀ p, AP p = none) (hz : nth cl 0 = c0) (hc0 : c0 ∈ cl) (hleast : ∀ c ∈ cl, c0 ≤ c)
    (hconn : ∀ c ∈ cl, Conn (fun a b => Adj WT a b ∧ a ∈ cl ∧ b ∈ cl) c0 c) (hf : ∀ i, i < cl.length → f (nth cl i) = nth hs i) (h : Solved q WT AP cl hs) : ∀ c ∈ cl, f c = c0 := by
  have hn : cl.Nodup := by rw [List.nodup_iff_pairwise_ne]; exact hp.imp fun h => by omega
  rcases h with ⟨h1, l, h2⟩ | ⟨h1, g, h2, rfl⟩
  · obtain ⟨rest, hr'⟩ := enum_head (AP := AP) (cl := cl) hA cl.length [] (fun i hi => absurd hi (Nat.not_lt_zero _))
    have hall : ∀ x ∈ rest, keptTo WT cl x cl.length ≤ keptTo WT cl (List.replicate cl.length (nth cl 0)) cl.length := fun x hx => by
      have e1 := keptTo_eq (q := q) (x := List.replicate cl.length (nth cl 0)) (f := fun _ => nth cl 0) hp hr hW (fun i hi => by simp [nth, List.getD_eq_getElem?_getD, hi])
      -- x as a function on the classes
      have e2 := keptTo_eq (q := q) (x := x) (f := fun c => match (List.range cl.length).find? fun i => decide (nth cl i = c) with | some i => nth x i | none => c) hp hr hW (fun i hi => by
        have : (List.range cl.length).find? (fun i' => decide (nth cl i' = nth cl i)) = some i := by
          rw [List.find?_eq_some_iff_append]
          refine ⟨by simp, ?_⟩
          refine ⟨List.range i, (List.range (cl.length - (i + 1))).map (· + (i + 1)), ?_, fun j hj => ?_⟩
          · have e : cl.length = i + (1 + (cl.length - (i + 1))) := by omega
            conv => lhs; rw [e]
            rw [List.range_add, List.range_add]
            simp only [List.range_one, List.map_append, List.map_cons, List.map_nil, Nat.add_zero, List.map_map, List.singleton_append]
            congr 2
            apply List.map_congr_left
            intro a _
            simp only [Function.comp]
            omega
          · have hj := List.mem_range.1 hj
            simp only [Bool.not_eq_true', decide_eq_false_iff_not]
            intro e
            have := nth_inj hn (by omega) hi e
            omega
        rw [this])
      rw [e1, e2]
      exact kept_mono h0 fun _ _ _ _ _ => rfl
    have hb := bestOf_split (W := WT) (cl := cl) (n := cl.length) hall [] (fun x hx => by simp at hx)
    rw [List.nil_append] at hr'
    rw [hr'] at h2
    rw [List.nil_append] at hb
    rw [hb] at h2
    obtain rfl : List.replicate cl.length (nth cl 0) = hs := congrArg Prod.fst (Option.some.inj h2)
    intro c hc
    obtain ⟨i, hi, rfl⟩ := nth_of_mem hc
    rw [hf i hi, ← hz]
    simp [nth, List.getD_eq_getElem?_getD, hi]
  · have S := (h2.sol (SolOk.start (fun p hp => absurd (hA p) hp))).1
    have hfg : ∀ c ∈ cl, f c = g c := fun c hc => by
      obtain ⟨i, hi, rfl⟩ := nth_of_mem hc
      rw [hf i hi]
      simp [nth, List.getD_eq_getElem?_getD, hi]
    -- at the end nothing is left to unite
    have hend : ∀ {hd hd' : Int → Int}, GRun q WT AP cl hd hd' → ∀ p, Cand AP cl hd' p → WG q WT cl hd' p ≤ 0 := by
      intro hd hd' h
      induction h with
      | stop hs => exact hs
      | step _ _ ih => exact ih
    have hadj : ∀ a ∈ cl, ∀ b ∈ cl, Adj WT a b → g a = g b := fun a ha b hb hab => by
      refine Classical.byContradiction fun hne => ?_
      have hpos : ∀ u ∈ cl, ∀ v ∈ cl, ∀ x, 0 < x → WT (u, v) = some x → ordP (g u) (g v) = ordP (g a) (g b) → False := fun u hu v hv x hx hw he => by
        have hlt : (ordP (g a) (g b)).1 < (ordP (g a) (g b)).2 := by unfold ordP; simp only; omega
        have hin : (ordP (g a) (g b)).1 ∈ cl ∧ g (ordP (g a) (g b)).1 = (ordP (g a) (g b)).1 := by
          unfold ordP; simp only
          rcases Int.le_total (g a) (g b) with h | h
          · rw [Int.min_eq_left h]; exact ⟨S.inn a ha, S.idem a ha⟩
          · rw [Int.min_eq_right h]; exact ⟨S.inn b hb, S.idem b hb⟩
        have hin2 : (ordP (g a) (g b)).2 ∈ cl ∧ g (ordP (g a) (g b)).2 = (ordP (g a) (g b)).2 := by
          unfold ordP; simp only
          rcases Int.le_total (g a) (g b) with h | h
          · rw [Int.max_eq_right h]; exact ⟨S.inn b hb, S.idem b hb⟩
          · rw [Int.max_eq_left h]; exact ⟨S.inn a ha, S.idem a ha⟩
        have hle := hend h2 (ordP (g a) (g b)) ⟨hin.1, hin2.1, hin.2, hin2.2, hlt, fun ⟨p', h1, _⟩ => h1 (hA p')⟩
        have hge : x ≤ WG q WT cl g (ordP (g a) (g b)) := by
          have hg0 : ((u, v) : Int × Int) ∈ grid q := mem_grid.2 ⟨(hr u hu).1, (hr u hu).2, (hr v hv).1, (hr v hv).2⟩
          rw [← gsum_at hg0 x]
          refine sum_le_sum fun p _ => ?_
          by_cases e : p = (u, v)
          · rw [if_pos e, if_pos (by rw [e]; exact ⟨hu, hv, he⟩), e, hw]; exact Int.le_refl _
          · rw [if_neg e]
            have := h0 p
            split <;> omega
        omega
      obtain ⟨x, hx, hw | hw⟩ := hab
      · exact hpos a ha b hb x hx hw rfl
      · exact hpos b hb a ha x hx hw (by unfold ordP; rw [Int.min_comm, Int.max_comm])
    have hall : ∀ c, Conn (fun a b => Adj WT a b ∧ a ∈ cl ∧ b ∈ cl) c0 c → g c = g c0 := fun c hc => by
      induction hc with
      | refl => rfl
      | step _ h ih => rw [← ih]; exact (hadj _ h.2.1 _ h.2.2 h.1).symm
    have hg0 : g c0 = c0 := by
      have := S.le c0 hc0
      have := hleast _ (S.inn c0 hc0)
      omega
    intro c hc
    rw [hfg c hc, hall c (hconn c hc), hg0]
end
theorem cluster_strong {es : List E3} {same ent ms : List Int} (hg : goodB es same [] = true) (hw : ∀ e ∈ es, 0 ≤ e.w) (h : ClusterP es same [] ent) (hms : MarksOf es same ms) : ent.length = same.length ∧ ∀ i, i < same.length → nth ent i = nth ms i := by
  have F := good_facts hg
  obtain ⟨ms', hd, hm, hl, he, A, hs, _⟩ := cluster_facts F h
  have hmk : MarkOk same same.length (Adj (wTo es same es.length)) ms := hms
  have hmk' : MarkOk same same.length (Adj (wTo es same es.length)) ms' := hm
  obtain rfl := hmk.uniq hmk' Adj.symm'
  refine ⟨hl, fun i hi => ?_⟩
  have hc := same_cls F.v rfl (i := (i : Int)) (by omega) (by omega)
  rw [Int.toNat_natCast] at hc
  obtain ⟨h1, h2⟩ := hmk.mem Adj.symm' hc
  obtain ⟨x, hx, hxv⟩ := hs _ h1
  obtain ⟨z1, z2⟩ := cls_zero hmk F.v rfl h1
  have hA : ∀ p, aTo [] same 0 p = none := fun p => rfl
  have h0 : ∀ p, 0 ≤ (wTo es same es.length p).getD 0 := fun p => by
    rw [wTo_all]
    split
    · rw [Option.getD_some]
      have := sum_le_sum (l := es) (f := fun _ => 0) (g := valK same p) (fun e he => by
        unfold valK
        split
        · exact hw e he
        · exact Int.le_refl _)
      rw [sum_zero] at this
      exact this
    · exact Int.le_refl _
  have hkey := hx.strong (f := hd) (c0 := nth ms (nth same i).toNat) (pair_ixs _ _) cls_range F.wl h0 hA z2 z1 (fun c hc => by
    obtain ⟨a, b, d, _⟩ := mem_cls.1 hc
    exact hmk.least F.v rfl ⟨a, b, d⟩) (fun c hc => ?_) hxv _ h2
  · rw [he i hi, hkey, hmk.same_eq Adj.symm' F.v rfl hi]
  · -- the classes of a component are connected within it
    obtain ⟨a, b, d, e⟩ := mem_cls.1 hc
    have hcls : ∀ a b, Adj (wTo es same es.length) a b → Cls same same.length a ∧ Cls same same.length b := fun a b hab => by
      obtain ⟨x, _, h | h⟩ := hab
      · have := F.wc _ _ h; exact ⟨this.1, this.2.1⟩
      · have := F.wc _ _ h; exact ⟨this.2.1, this.1⟩
    have k2 := (hmk.2 c.toNat (by omega)).2.1
    rw [d, e] at k2
    have hcon : ∀ y, Conn (Adj (wTo es same es.length)) (nth ms (nth same i).toNat) y → y ∈ clsOf same ms same.length (nth ms (nth same i).toNat) ∧ Conn (fun a b => Adj (wTo es same es.length) a b ∧ a ∈ clsOf same ms same.length (nth ms (nth same i).toNat) ∧ b ∈ clsOf same ms same.length (nth ms (nth same i).toNat)) (nth ms (nth same i).toNat) y := fun y hy => by
      induction hy with
      | refl => exact ⟨z1, .refl⟩
      | @step u v hu huv ih =>
        obtain ⟨c1, c2⟩ := hcls _ _ huv
        have hmuv := hmk.adj c1 c2 huv
        have hv' : v ∈ clsOf same ms same.length (nth ms (nth same i).toNat) := mem_cls.2 ⟨c2.1, c2.2.1, by rw [← hmuv]; exact (mem_cls.1 ih.1).2.2.1, c2.2.2⟩
        exact ⟨hv', ih.2.step ⟨huv, ih.1, hv'⟩⟩
    exact (hcon c k2).2

end Go.Proofs.Ytiapdpbcnbgdmaa

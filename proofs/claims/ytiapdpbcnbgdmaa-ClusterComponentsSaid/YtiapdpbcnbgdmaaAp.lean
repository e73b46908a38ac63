import Derived.Test.YtiapdpbcnbgdmaaKd
set_option linter.unusedVariables false
set_option linter.unusedSimpArgs false
namespace Go.Proofs.Ytiapdpbcnbgdmaa
open Go.RowKit

theorem pcells_all {ys : List (Int × Int)} {j : Nat} {u : Value} (h : (pcells ys)[j]? = some u) : ∃ k, k < ys.length ∧ ((j = k * 2 ∧ u = .int .i64 (pth ys k).1) ∨ (j = k * 2 + 1 ∧ u = .int .i64 (pth ys k).2)) := by
  have hj : j < (pcells ys).length := by
    rcases Nat.lt_or_ge j (pcells ys).length with h' | h'
    · exact h'
    · rw [List.getElem?_eq_none h'] at h; cases h
  rw [pcells_length] at hj
  obtain ⟨g1, g2⟩ := pcells_get ys (j / 2) (by omega)
  refine ⟨j / 2, by omega, ?_⟩
  rcases Nat.mod_two_eq_zero_or_one j with hm | hm
  · left
    have e : j = j / 2 * 2 := by omega
    rw [e, g1] at h
    exact ⟨e, (Option.some.inj h).symm⟩
  · right
    have e : j = j / 2 * 2 + 1 := by omega
    rw [e, g2] at h
    exact ⟨e, (Option.some.inj h).symm⟩
/-- 'append(v, ys...)' of pairs. -/
theorem append_pairs {base : Nat} {W : World} {v : Value} {xs : List (Int × Int)} {A : Option Addr} {n c : Nat} {ys : List (Int × Int)} (hown : W.ownsRow base 42 2 v xs.length (pcells xs)) (hr : RPairs W A n ys) (hbase : base ≤ W.heap.size) (hl : xs.length < 1000000000000) (hl2 : n < 1000000000000) :
    ∃ v' w', (Builtin.append_ #[24, 24] 24 #[v, .slice A n c]).run Try.prog W = .ok v' w' ∧ w'.ownsRow base 42 2 v' (xs ++ ys).length (pcells (xs ++ ys)) ∧ W.grownBy w' v.ownBlock ∧ (v'.ownBlock = v.ownBlock ∨ ∃ b, v'.ownBlock = some b ∧ W.heap.size ≤ b) := by
  obtain ⟨i0, hi, hz0, hz1, hz2⟩ := info_parts info42
  have hm : ys.length = n := hr.len
  rcases A with _ | ad
  · have h0 : n = 0 := by
      rcases Nat.eq_zero_or_pos n with h0 | h0
      · exact h0
      · obtain ⟨b, o, h, _⟩ := hr.cell h0
        cases h
    subst h0
    obtain rfl : ys = [] := List.eq_nil_of_length_eq_zero hm
    refine ⟨v, W, ?_, by simpa using hown, World.grownBy.refl W _, .inl rfl⟩
    rcases hown.2 with ⟨rfl, hn⟩ | ⟨g, cap, cur, rfl, _, _, hnc, _⟩
    · simp [Builtin.append_, run_underlying Try.underlying24, sizeOf, typeInfo, hi, Builtin.lenOf, Builtin.firstCells]
    · simp [Builtin.append_, run_underlying Try.underlying24, sizeOf, typeInfo, hi, Builtin.lenOf, Builtin.firstCells, hnc, storeCells]
  · have hcells : ∀ j u, (pcells ys)[j]? = some u → W.cell? (ad.add j) = some u := by
      intro j u hu
      obtain ⟨k, hk, h⟩ := pcells_all hu
      obtain ⟨b, o, h', hc⟩ := hr.cell (by omega)
      injection h' with h'
      subst h'
      rw [Addr.add_lit]
      rcases h with ⟨rfl, rfl⟩ | ⟨rfl, rfl⟩
      · exact (hc k (by omega)).1
      · exact (hc k (by omega)).2
    obtain ⟨v', w', h1, h2, h3, h4, h5⟩ := run_append_own_at (P := Try.prog) W base 24 24 42 i0 _ 2 16 Try.underlying24 hi hz0 hz1 hz2 rfl (by omega) v xs.length (pcells xs) hown ad n c (pcells ys) (by rw [pcells_length, hm]) hcells
      (by
        intro u hu
        obtain ⟨j, hj, e⟩ := List.getElem_of_mem hu
        obtain ⟨k, _, h⟩ := pcells_all (by rw [List.getElem?_eq_getElem hj, e] : (pcells ys)[j]? = some u)
        rcases h with ⟨_, rfl⟩ | ⟨_, rfl⟩ <;> rfl) (by simp only [maxLen]; omega) (by omega) hbase
    refine ⟨v', w', h1, ?_, h3, ?_⟩
    · have e : pcells (xs ++ ys) = pcells xs ++ pcells ys := by unfold pcells; rw [List.flatMap_append]
      rw [e, List.length_append, hm]
      exact h2
    · rcases h5 with h5 | h5
      · exact .inl h5
      · exact .inr ⟨_, h5, Nat.le_refl _⟩
theorem info40 : (Try.prog.info? 40).map (fun i => (i.zero, i.size, i.bytes)) = some (some (.agg #[.int .i64 0, .int .i64 0, .int .i64 0]), 3, 24) := by kernel_rfl
/-! A row of edges of the call's own. -/
def ecells (es : List E3) : List Value := es.flatMap fun e => [.int .i64 e.a, .int .i64 e.b, .int .i64 e.w]
theorem ecells_append (xs ys : List E3) : ecells (xs ++ ys) = ecells xs ++ ecells ys := by unfold ecells; rw [List.flatMap_append]
theorem ecells_length (es : List E3) : (ecells es).length = es.length * 3 := by
  induction es with
  | nil => rfl
  | cons k l ih => simp only [ecells, List.flatMap_cons, List.length_append, List.length_cons, List.length_nil] at ih ⊢; omega
theorem ecells_get (es : List E3) (j : Nat) (h : j < es.length) : (ecells es)[j * 3]? = some (.int .i64 (eth es j).a) ∧ (ecells es)[j * 3 + 1]? = some (.int .i64 (eth es j).b) ∧ (ecells es)[j * 3 + 2]? = some (.int .i64 (eth es j).w) := by
  induction es generalizing j with
  | nil => simp at h
  | cons k l ih =>
    cases j with
    | zero => simp [ecells, eth]
    | succ j =>
      have := ih j (by simpa using h)
      have e : (j + 1) * 3 = j * 3 + 3 := by omega
      simpa [ecells, eth, e] using this
theorem own_edges {W : World} {base : Nat} {v : Value} {es : List E3} (hown : W.ownsRow base 40 3 v es.length (ecells es)) (hb : es.length ≤ 35184372088832) : ∃ A c, v = .slice A es.length c ∧ REdges W A es.length es := by
  rcases hown.2 with ⟨rfl, h0⟩ | ⟨g, cap, cur, rfl, hg, hh, h1, h2, h3, h4⟩
  · rw [h0]
    exact ⟨none, 0, rfl, ⟨h0, by omega, fun h => absurd h (by omega)⟩⟩
  · refine ⟨_, cap, rfl, ⟨rfl, hb, fun _ => ⟨g, 0, rfl, fun j hj => ?_⟩⟩⟩
    obtain ⟨p1, p2, p3⟩ := ecells_get es j hj
    have c1 : cur[j * 3]? = some (.int .i64 (eth es j).a) := by
      rw [← h4, List.getElem?_take, if_pos (by omega)] at p1; simpa using p1
    have c2 : cur[j * 3 + 1]? = some (.int .i64 (eth es j).b) := by
      rw [← h4, List.getElem?_take, if_pos (by omega)] at p2; simpa using p2
    have c3 : cur[j * 3 + 2]? = some (.int .i64 (eth es j).w) := by
      rw [← h4, List.getElem?_take, if_pos (by omega)] at p3; simpa using p3
    rw [Nat.zero_add]
    exact ⟨(cells_of hh _ c1).1, (cells_of hh _ c2).1, (cells_of hh _ c3).1⟩
theorem append_edge1 {W : World} {base : Nat} {v : Value} {es : List E3} (e : E3) (hown : W.ownsRow base 40 3 v es.length (ecells es)) (hbase : base ≤ W.heap.size) (hl : es.length < 1000000000000) :
    ∃ v' w', (Builtin.append_ #[22, 22] 22 #[v, .slice (some ⟨W.heap.size, 0, none⟩) 1 1]).run Try.prog (W.alloc (.cells #[.int .i64 e.a, .int .i64 e.b, .int .i64 e.w] 40)) = .ok v' w' ∧ w'.ownsRow base 40 3 v' (es ++ [e]).length (ecells (es ++ [e])) ∧ W.grownBy w' v.ownBlock ∧
      (v'.ownBlock = v.ownBlock ∨ ∃ b, v'.ownBlock = some b ∧ W.heap.size ≤ b) := by
  obtain ⟨i0, hi, hz0, hz1, hz2⟩ := info_parts info40
  obtain ⟨v', w', h1, h2, h3, h4, h5⟩ := run_append_own_at (P := Try.prog) (W.alloc (.cells #[.int .i64 e.a, .int .i64 e.b, .int .i64 e.w] 40)) base 22 22 40 i0 _ 3 24 Try.underlying22 hi hz0 hz1 hz2 rfl (by omega) v es.length (ecells es) (hown.alloc _) ⟨W.heap.size, 0, none⟩ 1 1 [.int .i64 e.a, .int .i64 e.b, .int .i64 e.w] rfl
    (World.news_of_block (cs := #[.int .i64 e.a, .int .i64 e.b, .int .i64 e.w]) (t := 40) (fr := (0, 0)) (heap_alloc_new W _)) (by simp [Value.oneCell']) (by simp only [maxLen]; omega) (by omega) (by rw [World.size_alloc]; exact Nat.le_succ_of_le hbase)
  refine ⟨v', w', h1, ?_, World.grownBy.trans (World.grownBy_alloc W _ _) h3, ?_⟩
  · rw [ecells_append]
    simpa [ecells] using h2
  · rcases h5 with h5 | h5
    · exact .inl h5
    · exact .inr ⟨_, h5, by simp⟩
theorem append_edge2 {W : World} {base : Nat} {v : Value} {es : List E3} (e f : E3) (hown : W.ownsRow base 40 3 v es.length (ecells es)) (hbase : base ≤ W.heap.size) (hl : es.length < 1000000000000) :
    ∃ v' w', (Builtin.append_ #[22, 22] 22 #[v, .slice (some ⟨W.heap.size, 0, none⟩) 2 2]).run Try.prog (W.alloc (.cells #[.int .i64 e.a, .int .i64 e.b, .int .i64 e.w, .int .i64 f.a, .int .i64 f.b, .int .i64 f.w] 40)) = .ok v' w' ∧ w'.ownsRow base 40 3 v' (es ++ [e, f]).length (ecells (es ++ [e, f])) ∧ W.grownBy w' v.ownBlock ∧
      (v'.ownBlock = v.ownBlock ∨ ∃ b, v'.ownBlock = some b ∧ W.heap.size ≤ b) := by
  obtain ⟨i0, hi, hz0, hz1, hz2⟩ := info_parts info40
  obtain ⟨v', w', h1, h2, h3, h4, h5⟩ := run_append_own_at (P := Try.prog) (W.alloc (.cells #[.int .i64 e.a, .int .i64 e.b, .int .i64 e.w, .int .i64 f.a, .int .i64 f.b, .int .i64 f.w] 40)) base 22 22 40 i0 _ 3 24 Try.underlying22 hi hz0 hz1 hz2 rfl (by omega) v es.length (ecells es) (hown.alloc _) ⟨W.heap.size, 0, none⟩ 2 2 [.int .i64 e.a, .int .i64 e.b, .int .i64 e.w, .int .i64 f.a, .int .i64 f.b, .int .i64 f.w] rfl
    (World.news_of_block (cs := #[.int .i64 e.a, .int .i64 e.b, .int .i64 e.w, .int .i64 f.a, .int .i64 f.b, .int .i64 f.w]) (t := 40) (fr := (0, 0)) (heap_alloc_new W _)) (by simp [Value.oneCell']) (by simp only [maxLen]; omega) (by omega) (by rw [World.size_alloc]; exact Nat.le_succ_of_le hbase)
  refine ⟨v', w', h1, ?_, World.grownBy.trans (World.grownBy_alloc W _ _) h3, ?_⟩
  · rw [ecells_append]
    simpa [ecells] using h2
  · rcases h5 with h5 | h5
    · exact .inl h5
    · exact .inr ⟨_, h5, by simp⟩

end Go.Proofs.Ytiapdpbcnbgdmaa

import Derived.Test.YtiapdpbcnbgdmaaGm
import Derived.Maps.AppendAt
import Derived.OwnWalk
import Derived.Deep.AppendLies
set_option linter.unusedVariables false
set_option linter.unusedSimpArgs false
namespace Go.Proofs.Ytiapdpbcnbgdmaa
open Go.RowKit

/-! Rows of the call's own. -/
abbrev ints (xs : List Int) : List Value := xs.map (fun x => Value.int .i64 x)
theorem info3 : (Try.prog.info? 3).map (fun i => (i.zero, i.size, i.bytes)) = some (some (.int .i64 0), 1, 8) := by kernel_rfl
theorem info23 : (Try.prog.info? 23).map (fun i => (i.zero, i.size, i.bytes)) = some (some (.slice none 0 0), 1, 24) := by kernel_rfl
theorem info42 : (Try.prog.info? 42).map (fun i => (i.zero, i.size, i.bytes)) = some (some (.agg #[.int .i64 0, .int .i64 0]), 2, 16) := by kernel_rfl

/-- 'append(v, y)': behind the block of one cell that the translation lays for y. -/
theorem append_one {base T e : TypeId} {z : Value} {bytes : Nat} (ht : Try.prog.underlying T = some (.slice e)) (hinfo : (Try.prog.info? e).map (fun i => (i.zero, i.size, i.bytes)) = some (some z, 1, bytes)) (hz : z.cells.size = 1) (hb : bytes ≤ 24)
    {W : World} {v : Value} {xs : List Value} (y : Value) (hy : y.oneCell' = true) (hown : W.ownsRow base e 1 v xs.length xs) (hbase : base ≤ W.heap.size) (hl : xs.length < 1000000000000) :
    ∃ v' w', (Builtin.append_ #[T, T] T #[v, .slice (some ⟨W.heap.size, 0, none⟩) 1 1]).run Try.prog (W.alloc (.cells #[y] e)) = .ok v' w' ∧ w'.ownsRow base e 1 v' (xs ++ [y]).length (xs ++ [y]) ∧ W.grownBy w' v.ownBlock ∧
      (v'.ownBlock = v.ownBlock ∨ ∃ b, v'.ownBlock = some b ∧ W.heap.size ≤ b) ∧ v' ≠ .slice none 0 0 := by
  obtain ⟨i0, hi, hz0, hz1, hz2⟩ := info_parts hinfo
  obtain ⟨v', w', h1, h2, h3, h4, h5⟩ := run_append_own_at (P := Try.prog) (W.alloc (.cells #[y] e)) base T T e i0 z 1 bytes ht hi hz0 hz1 hz2 hz (by omega) v xs.length xs (hown.alloc _) ⟨W.heap.size, 0, none⟩ 1 1 [y] rfl
    (World.news_of_block (cs := #[y]) (t := e) (fr := (0, 0)) (heap_alloc_new W _)) (by simpa using hy) (by simp only [maxLen]; omega) (by
      have : (xs.length + 1) * bytes ≤ (xs.length + 1) * 24 := Nat.mul_le_mul_left _ hb
      omega) (by rw [World.size_alloc]; exact Nat.le_succ_of_le hbase)
  refine ⟨v', w', h1, by simpa using h2, World.grownBy.trans (World.grownBy_alloc W _ _) h3, ?_, fun e => by simpa using (h4.1 e).2⟩
  rcases h5 with h5 | h5
  · exact .inl h5
  · exact .inr ⟨_, h5, by simp⟩

/-- 'append(v, ys...)' of ints. -/
theorem append_ints {base : Nat} {W : World} {v : Value} {xs : List Int} {A : Option Addr} {n c : Nat} {ys : List Int} (hown : W.ownsRow base 3 1 v xs.length (ints xs)) (hr : RInts W A n ys) (hbase : base ≤ W.heap.size) (hl : xs.length < 1000000000000) (hl2 : n < 1000000000000) :
    ∃ v' w', (Builtin.append_ #[23, 23] 23 #[v, .slice A n c]).run Try.prog W = .ok v' w' ∧ w'.ownsRow base 3 1 v' (xs ++ ys).length (ints (xs ++ ys)) ∧ W.grownBy w' v.ownBlock ∧ (v'.ownBlock = v.ownBlock ∨ ∃ b, v'.ownBlock = some b ∧ W.heap.size ≤ b) ∧ (v' = .slice none 0 0 ↔ v = .slice none 0 0 ∧ n = 0) := by
  obtain ⟨i0, hi, hz0, hz1, hz2⟩ := info_parts info3
  have hm : ys.length = n := hr.len
  rcases A with _ | ad
  · have h0 : n = 0 := by
      rcases Nat.eq_zero_or_pos n with h0 | h0
      · exact h0
      · obtain ⟨b, o, h, _⟩ := hr.cell h0
        cases h
    subst h0
    obtain rfl : ys = [] := List.eq_nil_of_length_eq_zero hm
    refine ⟨v, W, ?_, by simpa using hown, World.grownBy.refl W _, .inl rfl, by simp⟩
    rcases hown.2 with ⟨rfl, hn⟩ | ⟨g, cap, cur, rfl, _, _, hnc, _⟩
    · simp [Builtin.append_, run_underlying Try.underlying23, sizeOf, typeInfo, hi, Builtin.lenOf, Builtin.firstCells]
    · simp [Builtin.append_, run_underlying Try.underlying23, sizeOf, typeInfo, hi, Builtin.lenOf, Builtin.firstCells, hnc, storeCells]
  · have hcells : ∀ j u, (ints ys)[j]? = some u → W.cell? (ad.add j) = some u := by
      intro j u hu
      have hj : j < ys.length := by
        rcases Nat.lt_or_ge j ys.length with h | h
        · exact h
        · simp [List.getElem?_eq_none h] at hu
      obtain ⟨b, o, h', hc⟩ := hr.cell (by omega)
      injection h' with h'
      subst h'
      have := hc j (by omega)
      simp [List.getElem?_eq_getElem hj] at hu
      subst hu
      rw [Addr.add_lit, this]
      simp [nth, List.getD_eq_getElem?_getD, List.getElem?_eq_getElem hj]
    obtain ⟨v', w', h1, h2, h3, h4, h5⟩ := run_append_own_at (P := Try.prog) W base 23 23 3 i0 (.int .i64 0) 1 8 Try.underlying23 hi hz0 hz1 hz2 rfl (by omega) v xs.length (ints xs) hown ad n c (ints ys) (by simp [hm]) hcells
      (by intro u hu; simp only [List.mem_map] at hu; obtain ⟨q, _, rfl⟩ := hu; rfl) (by simp only [maxLen]; omega) (by omega) hbase
    refine ⟨v', w', h1, by simpa [hm] using h2, h3, ?_, h4⟩
    rcases h5 with h5 | h5
    · exact .inl h5
    · exact .inr ⟨_, h5, Nat.le_refl _⟩

/-- What is owned is read. -/
theorem own_reads {w : World} {base : Nat} {v : Value} {xs : List Int} (h : w.ownsRow base 3 1 v xs.length (ints xs)) (hb : xs.length ≤ 35184372088832) : ∃ A c, v = .slice A xs.length c ∧ RInts w A xs.length xs := by
  rcases h.2 with ⟨rfl, h0⟩ | ⟨g, cap, cur, rfl, hg, hh, h1, h2, h3, h4⟩
  · rw [h0]
    exact ⟨none, 0, rfl, ⟨h0, by omega, fun hp => absurd hp (by omega)⟩⟩
  · refine ⟨_, cap, rfl, ⟨rfl, hb, fun hp => ⟨g, 0, rfl, fun j hj => ?_⟩⟩⟩
    have hc := h.cells (g := g) rfl j (.int .i64 (nth xs j)) (by simp [nth, List.getElem?_eq_getElem hj, List.getD_eq_getElem?_getD])
    rwa [Addr.add_lit] at hc
theorem own_ext {w w1 : World} {base e size n : Nat} {v : Value} {xs : List Value} (h : w.ownsRow base e size v n xs) (hb : Ext w w1) : w1.ownsRow base e size v n xs :=
  h.kept (row := none) ⟨hb.os, hb.tape, hb.output, hb.size, fun k hk _ => hb.block k hk⟩ (by cases v.ownBlock <;> simp)

theorem clone_any (A : Option Addr) (n c : Nat) (xs : List Int) (w : World) (h : RInts w A n xs) (hn : n ≤ 1000000) :
    Calls Try.prog 29 #[.slice A n c] w fun e w' => ∃ v, e = .returned v ∧ w'.ownsRow w.heap.size 3 1 v xs.length (ints xs) ∧ Ext w w' ∧ (A = none → v = .slice none 0 0) ∧ (A ≠ none → v ≠ .slice none 0 0) := by
  rcases A with _ | ad
  · have h0 : n = 0 := by
      rcases Nat.eq_zero_or_pos n with h0 | h0
      · exact h0
      · obtain ⟨b, o, h, _⟩ := h.cell h0
        cases h
    subst h0
    obtain rfl : xs = [] := List.eq_nil_of_length_eq_zero h.len
    have hneq := fun w a n c => Lib.run_eql_slice_nil (P := Try.prog) w 23 3 a n c 0 0 Try.underlying23
    go_enter Try.func29, Try.ntmps29
    go_wp2
    go_ret
    exact ⟨_, rfl, World.ownsRow_nil _ _ _ _, Below.refl _ _, fun _ => rfl, fun h => absurd rfl h⟩
  · have h0 : (w.alloc (.cells #[] 3)).ownsRow w.heap.size 3 1 (.slice (some ⟨w.heap.size, 0, none⟩) 0 0) ([] : List Int).length (ints []) :=
      World.ownsRow_made w #[] 0 (Nat.le_refl _) (by simp [maxLen]) rfl
    obtain ⟨v', w', hrun, hown, hg, _, hnil⟩ := append_ints (c := c) h0 (h.ext (ext_alloc _ _)) (by simp) (by simp) (by omega)
    have Hn := Lib.hid hnil
    clear hnil
    have hneq := fun w a n c => Lib.run_eql_slice_nil (P := Try.prog) w 23 3 a n c 0 0 Try.underlying23
    go_enter Try.func29, Try.ntmps29
    go_wp2_with (at_builtin; refine wpList_app hrun rfl rfl rfl rfl ?_)
    go_ret
    refine ⟨_, rfl, by simpa using hown, (ext_alloc w _).grown hg (by simp) (fun k e => ?_), fun h => ?_, fun _ e => ?_⟩
    · cases e; exact Nat.le_refl _
    · cases h
    · simpa using (Hn.out.1 e).1

end Go.Proofs.Ytiapdpbcnbgdmaa

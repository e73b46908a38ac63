import Derived.Test.YtiapdpbcnbgdmaaRh
set_option linter.unusedVariables false
set_option linter.unusedSimpArgs false
namespace Go.Proofs.Ytiapdpbcnbgdmaa
open Go.RowKit

attribute [local go_sem] Oper.semAt_some
def pcells (ks : List (Int × Int)) : List Value := ks.flatMap fun k => [.int .i64 k.1, .int .i64 k.2]
theorem pcells_snoc (ks : List (Int × Int)) (k : Int × Int) : pcells (ks ++ [k]) = pcells ks ++ [.int .i64 k.1, .int .i64 k.2] := by simp [pcells]
theorem pcells_length (ks : List (Int × Int)) : (pcells ks).length = ks.length * 2 := by
  induction ks with
  | nil => rfl
  | cons k l ih => simp only [pcells, List.flatMap_cons, List.length_append, List.length_cons, List.length_nil] at ih ⊢; omega
theorem pcells_get (ks : List (Int × Int)) (j : Nat) (h : j < ks.length) : (pcells ks)[j * 2]? = some (.int .i64 (pth ks j).1) ∧ (pcells ks)[j * 2 + 1]? = some (.int .i64 (pth ks j).2) := by
  induction ks generalizing j with
  | nil => simp at h
  | cons k l ih =>
    cases j with
    | zero => simp [pcells, pth]
    | succ j =>
      have := ih j (by simpa using h)
      have e : (j + 1) * 2 = j * 2 + 2 := by omega
      simpa [pcells, pth, e] using this
theorem append_pair {W : World} {base : Nat} {v : Value} {ks : List (Int × Int)} (k : Int × Int) (hown : W.ownsRow base 42 2 v ks.length (pcells ks)) (hbase : base ≤ W.heap.size) (hl : ks.length < 1000000000000) :
    ∃ v' w', (Builtin.append_ #[24, 24] 24 #[v, .slice (some ⟨W.heap.size, 0, none⟩) 1 1]).run Try.prog (W.alloc (.cells #[.int .i64 k.1, .int .i64 k.2] 42)) = .ok v' w' ∧ w'.ownsRow base 42 2 v' (ks ++ [k]).length (pcells (ks ++ [k])) ∧ W.grownBy w' v.ownBlock ∧
      (v'.ownBlock = v.ownBlock ∨ ∃ b, v'.ownBlock = some b ∧ W.heap.size ≤ b) := by
  obtain ⟨i0, hi, hz0, hz1, hz2⟩ := info_parts info42
  obtain ⟨v', w', h1, h2, h3, h4, h5⟩ := run_append_own_at (P := Try.prog) (W.alloc (.cells #[.int .i64 k.1, .int .i64 k.2] 42)) base 24 24 42 i0 _ 2 16 Try.underlying24 hi hz0 hz1 hz2 rfl (by omega) v ks.length (pcells ks) (hown.alloc _) ⟨W.heap.size, 0, none⟩ 1 1 [.int .i64 k.1, .int .i64 k.2] rfl
    (World.news_of_block (cs := #[.int .i64 k.1, .int .i64 k.2]) (t := 42) (fr := (0, 0)) (heap_alloc_new W _)) (by simp [Value.oneCell']) (by simp only [maxLen]; omega) (by omega) (by rw [World.size_alloc]; exact Nat.le_succ_of_le hbase)
  refine ⟨v', w', h1, ?_, World.grownBy.trans (World.grownBy_alloc W _ _) h3, ?_⟩
  · rw [pcells_snoc]
    simpa using h2
  · rcases h5 with h5 | h5
    · exact .inl h5
    · exact .inr ⟨_, h5, by simp⟩
theorem own_pairs {W : World} {base : Nat} {v : Value} {ks : List (Int × Int)} (hown : W.ownsRow base 42 2 v ks.length (pcells ks)) (hb : ks.length ≤ 35184372088832) : ∃ A c, v = .slice A ks.length c ∧ RPairs W A ks.length ks := by
  rcases hown.2 with ⟨rfl, h0⟩ | ⟨g, cap, cur, rfl, hg, hh, h1, h2, h3, h4⟩
  · rw [h0]
    exact ⟨none, 0, rfl, ⟨h0, by omega, fun h => absurd h (by omega)⟩⟩
  · refine ⟨_, cap, rfl, ⟨rfl, hb, fun _ => ⟨g, 0, rfl, fun j hj => ?_⟩⟩⟩
    obtain ⟨p1, p2⟩ := pcells_get ks j hj
    have c1 : cur[j * 2]? = some (.int .i64 (pth ks j).1) := by
      rw [← h4, List.getElem?_take, if_pos (by omega)] at p1; simpa using p1
    have c2 : cur[j * 2 + 1]? = some (.int .i64 (pth ks j).2) := by
      rw [← h4, List.getElem?_take, if_pos (by omega)] at p2; simpa using p2
    have d1 := (cells_of hh (j * 2) c1).1
    have d2 := (cells_of hh (j * 2 + 1) c2).1
    rw [Nat.zero_add]
    exact ⟨d1, d2⟩

theorem iter_few' {ν : Type} {vv : ν → Value} {w : World} {it m : Nat} {M : Int × Int → Option ν} {D : Int × Int → Prop} {c : Nat} (h : IterSt w it m kvP vv M D c) (q : Nat) (hM : ∀ p x, M p = some x → 0 ≤ p.1 ∧ p.1 < q ∧ 0 ≤ p.2 ∧ p.2 < q) : c ≤ q * q := by
  obtain ⟨l, clock, seen, hm, hg, _, _, hc⟩ := h
  have hk := hm.tidy.keys
  have hin : ∀ e ∈ l, 0 ≤ e.1.1 ∧ e.1.1 < q ∧ 0 ≤ e.1.2 ∧ e.1.2 < q := fun e he => hM e.1 e.2.1 (by rw [← hg]; exact mem_getL hk he)
  have hidx : (l.map fun e => e.1.1.toNat * q + e.1.2.toNat).Nodup := by
    rw [List.nodup_iff_pairwise_ne, List.pairwise_map]
    rw [List.nodup_iff_pairwise_ne, List.pairwise_map] at hk
    refine List.Pairwise.imp_of_mem ?_ hk
    intro a b ha hb hab e
    have h1 := hin a ha
    have h2 := hin b hb
    apply hab
    have hq : 0 < q := by omega
    have e1 : (a.1.1.toNat * q + a.1.2.toNat) / q = (b.1.1.toNat * q + b.1.2.toNat) / q := by rw [e]
    rw [Nat.mul_comm, Nat.mul_add_div hq, Nat.mul_comm b.1.1.toNat, Nat.mul_add_div hq, Nat.div_eq_of_lt (by omega), Nat.div_eq_of_lt (by omega)] at e1
    have e2 : a.1.1.toNat = b.1.1.toNat := by omega
    rw [e2] at e
    apply Prod.ext <;> omega
  have := nodup_lt (q * q) _ hidx (fun x hx => by
    obtain ⟨e, he, rfl⟩ := List.mem_map.1 hx
    have h1 := hin e he
    have h2 : e.1.1.toNat + 1 ≤ q := by omega
    have h3 : (e.1.1.toNat + 1) * q ≤ q * q := Nat.mul_le_mul_right _ h2
    rw [Nat.add_mul] at h3
    omega)
  rw [List.length_map] at this
  rw [← hc]
  exact Nat.le_trans (List.length_filter_le _ _) this
/-- The keys of a map, one after the other: what maps.Keys hands back, called with a yield. -/
theorem keysIter_any {w W1 : World} {B r : Nat} {AP : Int × Int → Option Bool} (hB : w.cell? ⟨B, 0, none⟩ = some (.map (some r))) (hM : MapFn w r kvP vvB AP) (bad : Nat → Prop) (hbad : ∀ k, bad k → k ≠ B ∧ k ≠ r ∧ k ≠ w.heap.size + 1 + 1)
    (J' : List (Int × Int) → World → Prop) (hJ : ∀ pre A B, J' pre A → Kept (fun k => k = w.heap.size + 1 + 1) A B → J' pre B)
    (q : Nat) (hq : ∀ p x, AP p = some x → 0 ≤ p.1 ∧ p.1 < q ∧ 0 ≤ p.2 ∧ p.2 < q)
    (hY : ∀ pre x W, J' pre W → pre.length < q * q → w.heap.size + 3 ≤ W.heap.size → YieldAt Fence.wide 0 Try.prog (w.heap.size + 1) #[kvP x] W fun e W' => e = .returned (.bool true) ∧ J' (pre ++ [x]) W' ∧ Kept (fun k => bad k ∨ k = w.heap.size + 1) W W')
    (hx : Ext w W1) (hsz : W1.heap.size = w.heap.size + 1 + 1) (h0 : J' [] W1) :
    Calls Try.prog 69 (#[.func (.yield (w.heap.size + 1)) #[] #[]] ++ #[.pointer (some ⟨B, 0, none⟩)]) W1 fun e W' => (∃ v, e = .returned v) ∧ ∃ xs, (∀ k, k ∈ xs ↔ AP k ≠ none) ∧ J' xs W' := by
  have hrl := hM.lt
  have hBl := World.block_lt_of_cell? _ _ hB
  dsimp only at hBl
  have c0 := cell_ext hx hB
  have hM1 := hM.same (hx.block _ hrl)
  obtain ⟨cl, hrg, n0, hit⟩ := iter_start (P := Try.prog) Try.underlying50 hM1
  rw [hsz] at hrg hit
  have hn0 := iter_few' hit q hq
  have h0' := hJ _ _ _ h0 (.of_ext (ext_alloc W1 (.mapIter (some r) cl #[] cl)))
  have hx2 := Ext.trans hx (ext_alloc W1 (.mapIter (some r) cl #[] cl))
  have HY := Lib.hid hY
  clear hY
  refine (callsIn_wide (n := 1)).1 ?_
  refine callsIn_of_wp Try.func69 rfl trivial ?_ rfl
  simp only [Try.ntmps69, List.size_toArray, List.length_cons, List.length_nil, Nat.reduceAdd, Nat.reduceSub, Array.replicate_succ, Array.replicate_zero, List.push_toArray, List.append_toArray, List.nil_append, List.cons_append]
  gi_wp2
  gi_loopg [3] n0 (fun gg _ wr => ∃ D c xs, c ≤ gg ∧ IterSt wr (w.heap.size + 1 + 1) r kvP vvB AP D c ∧ J' xs wr ∧ xs.length + c ≤ q * q ∧ (∀ k, k ∈ xs ↔ D k) ∧ (∀ k, D k → AP k ≠ none) ∧ w.heap.size + 1 + 1 < wr.heap.size)
  case atStart => exact ⟨_, n0, [], Nat.le_refl _, hit, h0', by simpa using hn0, by simp, fun k h => h.elim, by simp; omega⟩
  case round =>
    obtain ⟨D, c, xs, hc, I, hJx, hln, hxs, hD, hsz1⟩ := hrel
    rcases iter_next (P := Try.prog) I 0 with ⟨rfl, hall, hnx⟩ | ⟨p, x, w1, hMp, hDp, hc0, hnx, hit1, hg1, hs1, hent⟩
    · have hfin : (∀ k, k ∈ xs ↔ AP k ≠ none) := fun k => by
        rw [hxs]
        refine ⟨hD k, fun h => ?_⟩
        obtain ⟨v, hv⟩ := Option.ne_none_iff_exists'.1 h
        exact hall _ _ hv
      have HF := Lib.hid hfin
      clear hall hD hxs hfin I hit hrg h0' h0
      gi_wp2
      go_end0
      exact ⟨⟨_, rfl⟩, xs, HF.out, hJx⟩
    · have hx3 := ext_alloc w1 (.cells #[.int .i64 p.1, .int .i64 p.2] 42)
      have hJ1 := hJ _ _ _ hJx ((Kept.of_grown (X := fun k => k = w.heap.size + 1 + 1) hg1 rfl).trans (.of_ext hx3))
      obtain ⟨fn, tmps, assign, body, hy, hR⟩ := HY.out xs p _ hJ1 (by omega) (by simp; omega)
      have hit1l := hit1.lt
      have hk0 := cells_of (heap_alloc_new w1 (.cells #[.int .i64 p.1, .int .i64 p.2] 42)) 0 rfl
      have hk1 := cells_of (heap_alloc_new w1 (.cells #[.int .i64 p.1, .int .i64 p.2] 42)) 1 rfl
      dsimp only [kvP, vvB] at hnx hent hy
      clear hJ1
      gi_wp2
      refine hR.mono ?_
      rintro e W' ⟨rfl, hJ', hk⟩
      have hit2 : IterSt W' (w.heap.size + 1 + 1) r kvP vvB AP (fun k' => k' = p ∨ D k') (c - 1) := by
        refine (hit1.same (hx3.block _ hit1l.1) (hx3.block _ hit1l.2.1)).same (hk.block _ (by have := hit1l.1; simp; omega) ?_) (hk.block _ (by have := hit1l.2.1; simp; omega) ?_)
        · rintro (h | h)
          · exact (hbad _ h).2.2 rfl
          · omega
        · rintro (h | h)
          · exact (hbad _ h).2.1 rfl
          · omega
      have hsz2 : w.heap.size + 1 + 1 < W'.heap.size := Nat.lt_of_lt_of_le (by simp; omega) hk.size
      have hD2 : ∀ k, (k = p ∨ D k) → AP k ≠ none := by
        rintro k (rfl | h)
        · rw [hMp]; simp
        · exact hD k h
      have HF := Lib.hid (show (∀ k, k ∈ xs ++ [p] ↔ (k = p ∨ D k)) from fun k => by rw [List.mem_append, List.mem_singleton, hxs]; exact Or.comm)
      have HD2 := Lib.hid hD2
      clear hR hk hit1 hg1 hs1 hent hnx hD hxs hD2 I hJx
      gi_wp2
      gi_roundg (c - 1)
      case measure => omega
      case rel => exact ⟨_, c - 1, xs ++ [p], Nat.le_refl _, hit2, hJ', by simp; omega, HF.out, HD2.out, hsz2⟩

end Go.Proofs.Ytiapdpbcnbgdmaa

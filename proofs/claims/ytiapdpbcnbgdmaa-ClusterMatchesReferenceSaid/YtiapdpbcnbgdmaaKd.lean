import Derived.Test.YtiapdpbcnbgdmaaKc
set_option linter.unusedVariables false
set_option linter.unusedSimpArgs false
namespace Go.Proofs.Ytiapdpbcnbgdmaa
open Go.RowKit

attribute [local go_sem] Oper.semAt_some
theorem mapsKeys_any (r : Nat) (w : World) : Calls Try.prog 58 #[.map (some r)] w fun e w' => e = .returned (.func (.func 69) #[] #[.pointer (some ⟨w.heap.size, 0, none⟩)]) ∧ w' = w.alloc (.cells #[.map (some r)] 50) := by
  go_enter Try.func58, Try.ntmps58
  go_wp2
  go_ret
  exact ⟨rfl, rfl⟩
/-- between two rounds -/
structure CoSt (w0 : World) (B lo : Nat) (pre : List (Int × Int)) (W : World) : Prop where
  row : ∃ v, Boxed W B 24 v ∧ W.ownsRow lo 42 2 v pre.length (pcells pre)
  ext : Ext w0 W
theorem own_keep2 {W W' : World} {X : Nat → Prop} {base e size n : Nat} {v : Value} {xs : List Value} (h : W.ownsRow base e size v n xs) (K : Kept X W W') (hX : ∀ k, base ≤ k → ¬ X k) : W'.ownsRow base e size v n xs := by
  refine ⟨h.1, ?_⟩
  rcases h.2 with h' | ⟨g', cap', cur, h', hb, hk, h1⟩
  · exact .inl h'
  · exact .inr ⟨g', cap', cur, h', hb, (K.block g' (Array.getElem?_eq_some_iff.1 hk).1 (hX g' hb)).trans hk, h1⟩
theorem CoSt.keep {w0 : World} {B lo : Nat} {pre : List (Int × Int)} {W W' : World} (S : CoSt w0 B lo pre W) {X : Nat → Prop} (K : Kept X W W') (h : ¬ X B) (hlo : ∀ k, lo ≤ k → ¬ X k) (hw : ∀ k, X k → w0.heap.size ≤ k) : CoSt w0 B lo pre W' := by
  obtain ⟨v, hb, hr⟩ := S.row
  exact ⟨⟨v, (K.block _ hb.lt h).trans hb, own_keep2 hr K hlo⟩, K.ext S.ext hw⟩

/-- 'append' in a round, its run given. -/
theorem wpListIn_app {P : Program} {ops : Array Oper} {Q : Exit → Act → World → Prop} {l n : Nat} {o : Oper} {rest : List Oper} {a : Act} {t : TypeId} {s x : Operand} {v u v' : Value} {w w' : World} (h : (Builtin.append_ #[t, t] o.type #[v, u]).run P w = .ok v' w') (hg : o.guard = none)
    (ho : o.op = .call { callee := .builtin .append, args := #[s, x], argTypes := #[t, t] }) (hs : a.eval s = v) (hx : a.eval x = u) (hr : wpListIn (Fence.wide.inRound l) n P ops Q rest (a.put o.dst v') w') : wpListIn (Fence.wide.inRound l) n P ops Q (o :: rest) a w :=
  wpListIn_plain hg fun K hK => ⟨fun _ _ => trivial, by
    rw [Oper.semAt_eq _ _ _ (by rw [ho]; simp), run_app h ho hs hx]
    exact hK _ _ hr⟩

set_option maxHeartbeats 2000000 in
theorem appendSeq_any {w : World} {B r : Nat} {AP : Int × Int → Option Bool} (hB : w.cell? ⟨B, 0, none⟩ = some (.map (some r))) (hM : MapFn w r kvP vvB AP) (q : Nat) (hq : ∀ p x, AP p = some x → 0 ≤ p.1 ∧ p.1 < q ∧ 0 ≤ p.2 ∧ p.2 < q) (hq2 : q ≤ 2000) :
    Calls Try.prog 68 #[.slice none 0 0, .func (.func 69) #[] #[.pointer (some ⟨B, 0, none⟩)]] w fun e w' => ∃ v xs, e = .returned v ∧ (∀ k, k ∈ xs ↔ AP k ≠ none) ∧ w'.ownsRow w.heap.size 42 2 v xs.length (pcells xs) ∧ Ext w w' ∧ xs.length ≤ q * q := by
  have hBl := World.block_lt_of_cell? _ _ hB
  dsimp only at hBl
  have hrl := hM.lt
  have hqq : q * q ≤ 2000 * 2000 := Nat.mul_le_mul hq2 hq2
  obtain ⟨W0, HW⟩ : ∃ W0, Hid (W0 = w.alloc (.cells #[.slice none 0 0] 24)) := ⟨_, rfl⟩
  have hx0 : Ext w W0 := by rw [HW.out]; exact ext_alloc _ _
  have hs0 : W0.heap.size = w.heap.size + 1 := by rw [HW.out]; simp
  have b0 : Boxed W0 w.heap.size 24 (.slice none 0 0) := by rw [HW.out]; exact Boxed.new _ _ _
  refine (callsIn_wide (n := 3)).1 ?_
  refine callsIn_of_wp_marks Try.func68 rfl trivial ?_ rfl
  simp only [Try.ntmps68, List.size_toArray, List.length_cons, List.length_nil, Nat.reduceAdd, Nat.reduceSub, Array.replicate_succ, Array.replicate_zero, List.push_toArray, List.append_toArray, List.nil_append, List.cons_append]
  refine wpIn_wide.2 ?_
  go_wp2
  rw [← HW.out]
  refine wp_rounds2 (gf := 69) (lb := #[.pointer (some ⟨B, 0, none⟩)]) rfl (enters_of Try.func69 (by kernel_rfl) rfl) (fun x => #[kvP x]) (fun _ => rfl)
    (fun pre W => CoSt w w.heap.size (W0.heap.size + 3) pre W ∧ pre.length ≤ q * q) (fun pre _ => pre.length < q * q)
    (fun x a' W => ∃ bx, W0.heap.size + 3 ≤ bx ∧ W.heap[bx]? = some (.cells #[.int .i64 x.1, .int .i64 x.2] 42 (0, 0)) ∧ a' = { tmps := #[.slice none 0 0, .func (.func 69) #[] #[.pointer (some ⟨B, 0, none⟩)], .pointer (some ⟨w.heap.size, 0, none⟩), undef, .slice none 0 0, .pointer (some ⟨bx, 0, none⟩), .func (.func 69) #[] #[.pointer (some ⟨B, 0, none⟩)], kvP x, undef, undef, undef, undef, undef], defers := [] })
    (fun k => k = W0.heap.size + 1 + 1) (fun k => k = w.heap.size ∨ W0.heap.size + 3 ≤ k) (fun k h => by omega) (fun k h => by omega) (fun xs => ∀ k, k ∈ xs ↔ AP k ≠ none) (W0.heap.size + 3)
    (fun pre A B h K => ⟨h.1.keep K (by omega) (fun k hk => by omega) (fun k hk => by omega), h.2⟩)
    (fun x a A B ⟨bx, h1, h2, h3⟩ K => ⟨bx, h1, (K.block _ (Array.getElem?_eq_some_iff.1 h2).1 (by omega)).trans h2, h3⟩)
    (fun J' W1 hJ hY hxx hsz h0 => (keysIter_any (cell_ext hx0 hB) (hM.same (hx0.block _ hrl)) _ (fun k hk => by omega) J' hJ q hq hY hxx hsz h0))
    ?assign ?body (fun W hx hsz => ⟨⟨⟨_, (hx.block _ b0.lt).trans b0, World.ownsRow_nil _ _ _ _⟩, Ext.trans hx0 hx⟩, Nat.zero_le _⟩) ?done
  case assign =>
    intro pre x W K hS hX hl hsz hK
    gi_wp2
    exact hK _ _ (.of_ext (ext_alloc _ _)) ⟨hS.1.keep (X := fun _ => False) (.of_ext (ext_alloc _ _)) (fun h => h) (fun _ _ h => h) (fun _ h => h.elim), hS.2⟩ ⟨W.heap.size, hsz, heap_alloc_new _ _, rfl⟩
  case body =>
    rintro pre x a' W ⟨S, hlen⟩ hX ⟨bx, hbx, hbc, rfl⟩ hl hsz
    obtain ⟨v, hb, hr⟩ := S.row
    have k0 := (cells_of hbc 0 rfl).1
    have k1 := (cells_of hbc 1 rfl).1
    have kb := hb.cell
    have hbl := hb.lt
    obtain ⟨v', w', happ, hown, hg, hob⟩ := append_pair x hr hsz (by omega)
    have hne : some w.heap.size ≠ v.ownBlock := hb.not_row (by decide) hr
    have hb' : Boxed w' w.heap.size 24 v := hb.kept hg hne
    have kb' := hb'.cell
    have kf' := hb'.frozen
    have hsl : ∃ A c, v' = .slice A (pre ++ [x]).length c := by
      rcases hown.2 with ⟨rfl, h0⟩ | ⟨g', cap', _, rfl, _⟩
      · simp at h0
      · exact ⟨_, _, rfl⟩
    obtain ⟨A', c', rfl⟩ := hsl
    gi_wp2_with (gi_at_builtin; refine wpListIn_app happ rfl rfl rfl rfl ?_)
    have K1 : Kept (fun k => k = w.heap.size ∨ w.heap.size + 1 + 3 ≤ k) W w' := by
      refine ⟨hg.os, hg.tape, hg.output, hg.size, fun k hk hn => hg.block k hk (fun e => hn (.inr ?_))⟩
      have := (own_block hr e.symm).1
      omega
    have K2 := K1.trans (.of_grown (grownBy_setCell' w' w.heap.size (Value.slice A' (pre.length + 1) c')) (.inl rfl))
    have K3 : Kept (fun k => k = w.heap.size) w' (w'.setCell ⟨w.heap.size, 0, none⟩ (Value.slice A' (pre.length + 1) c')) := .of_grown (grownBy_setCell' _ _ _) rfl
    have hl1 : (pre ++ [x]).length = pre.length + 1 := by simp
    rw [hl1] at hown
    exact ⟨K2, ⟨⟨_, hb'.set _, by rw [hl1]; exact (own_keep2 hown K3 (fun k hk => by omega)).mono (by omega)⟩, K2.ext S.ext (fun k hk => by omega)⟩, by omega⟩
  case done =>
    rintro xs W hS ⟨S, hlen⟩ hD
    obtain ⟨v, hb, hr⟩ := S.row
    have hbc := hb.cell
    have hDl := (Array.getElem?_eq_some_iff.1 hD).1
    have KD : Kept (fun k => k = W0.heap.size) W (W.putObj W0.heap.size (.deferred none)) := Kept.putObj _ hDl rfl
    have hfin : (∀ k, k ∈ xs ↔ AP k ≠ none) ∧ (W.putObj W0.heap.size (.deferred none)).ownsRow w.heap.size 42 2 v xs.length (pcells xs) ∧ Ext w (W.putObj W0.heap.size (.deferred none)) ∧ xs.length ≤ q * q :=
      ⟨hS, (own_keep2 hr KD (fun k hk => by omega)).mono (by omega), KD.ext S.ext (fun k hk => by omega), hlen⟩
    have HF := Lib.hid hfin
    clear hfin hr S hb hS
    go_wp2
    refine ⟨by simp, .inl ⟨_, _, rfl, run_takeDeferred hD, ?_⟩⟩
    exact ⟨_, results_tmp rfl _ _ _, v, xs, rfl, HF.out⟩

set_option maxHeartbeats 1000000 in
/-- 'slices.Collect(maps.Keys(m))': all the keys, in some order. -/
theorem collect_any {w : World} {B r : Nat} {AP : Int × Int → Option Bool} (hB : w.cell? ⟨B, 0, none⟩ = some (.map (some r))) (hM : MapFn w r kvP vvB AP) (q : Nat) (hq : ∀ p x, AP p = some x → 0 ≤ p.1 ∧ p.1 < q ∧ 0 ≤ p.2 ∧ p.2 < q) (hq2 : q ≤ 2000) :
    Calls Try.prog 57 #[.func (.func 69) #[] #[.pointer (some ⟨B, 0, none⟩)]] w fun e w' => ∃ A c xs, e = .returned (.slice A xs.length c) ∧ (∀ k, k ∈ xs ↔ AP k ≠ none) ∧ RPairs w' A xs.length xs ∧ Ext w w' ∧ xs.length ≤ q * q := by
  have hc := appendSeq_any hB hM q hq hq2
  have hqq : q * q ≤ 2000 * 2000 := Nat.mul_le_mul hq2 hq2
  go_enter Try.func57, Try.ntmps57
  go_wp2_with (go_at_call 68; refine hc.mono ?_; rintro e w' ⟨v, xs, rfl, h1, h2, h3, h4⟩)
  obtain ⟨A, c, rfl, hr⟩ := own_pairs h2 (by omega)
  go_ret
  exact ⟨A, c, xs, rfl, h1, hr, h3, h4⟩

end Go.Proofs.Ytiapdpbcnbgdmaa

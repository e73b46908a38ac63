import Derived.Test.YtiapdpbcnbgdmaaO
set_option linter.unusedVariables false
set_option linter.unusedSimpArgs false
namespace Go.Proofs.Ytiapdpbcnbgdmaa
open Go.RowKit

/-! slices.DeleteFunc at ints, in a row of the call's own. -/
theorem own_at {W : World} {base g n cap : Nat} {xs : List Int} (h : W.ownsRow base 3 1 (.slice (some ⟨g, 0, none⟩) n cap) n (ints xs)) (i : Nat) (h1 : i < n) :
    W.cell? ⟨g, i, none⟩ = some (.int .i64 (nth xs i)) ∧ W.frozen? ⟨g, i, none⟩ = false := by
  have hl : xs.length = n := by have := h.1; simpa using this
  constructor
  · have hc := h.cells (g := g) rfl i (.int .i64 (nth xs i)) (by simp [nth, List.getElem?_eq_getElem (show i < xs.length by omega), List.getD_eq_getElem?_getD])
    rwa [Addr.add_lit, Nat.zero_add] at hc
  · rcases h.2 with ⟨h', _⟩ | ⟨g', cap', cur, h', _, hh, _⟩
    · cases h'
    · have : g = g' := by injection h' with h'; injection h' with h'; injection h' with h'
      subst this
      simp [World.frozen?, hh]
theorem own_store {W : World} {base g n cap : Nat} {xs : List Int} (h : W.ownsRow base 3 1 (.slice (some ⟨g, 0, none⟩) n cap) n (ints xs)) (i : Nat) (x : Int) :
    (W.setCell ⟨g, i, none⟩ (.int .i64 x)).ownsRow base 3 1 (.slice (some ⟨g, 0, none⟩) n cap) n (ints (xs.set i x)) ∧ W.grownBy (W.setCell ⟨g, i, none⟩ (.int .i64 x)) (some g) := by
  have hs := h.stored i (.int .i64 x)
  have he : (ints xs).set i (.int .i64 x) = ints (xs.set i x) := by simp [ints, List.map_set]
  rwa [he] at hs
theorem own_take {W : World} {base g n cap : Nat} {xs : List Int} (h : W.ownsRow base 3 1 (.slice (some ⟨g, 0, none⟩) n cap) n (ints xs)) (i : Nat) (hi : i ≤ n) :
    W.ownsRow base 3 1 (.slice (some ⟨g, 0, none⟩) i cap) i (ints (xs.take i)) := by
  have hl : xs.length = n := by have := h.1; simpa using this
  refine ⟨by simp; omega, ?_⟩
  rcases h.2 with ⟨h', _⟩ | ⟨g', cap', cur, h', hb, hh, h1, h2, h3, h4⟩
  · cases h'
  · have hg : g = g' := by injection h' with h'; injection h' with h'; injection h' with h'
    have hc : cap = cap' := by injection h'
    subst hg; subst hc
    refine .inr ⟨g, cap, cur, rfl, hb, hh, by omega, h2, h3, ?_⟩
    have h5 : cur.toList.take (i * 1) = (cur.toList.take (n * 1)).take i := by rw [List.take_take]; congr 1; omega
    rw [h5, h4, ← List.map_take]
theorem own_lt {W : World} {base g n cap : Nat} {xs : List Int} (h : W.ownsRow base 3 1 (.slice (some ⟨g, 0, none⟩) n cap) n (ints xs)) : g < W.heap.size ∧ n ≤ cap ∧ base ≤ g := by
  rcases h.2 with ⟨h', _⟩ | ⟨g', cap', cur, h', hb, hh, h1, h2, h3, h4⟩
  · cases h'
  · have hg : g = g' := by injection h' with h'; injection h' with h'; injection h' with h'
    have hc : cap = cap' := by injection h'
    subst hg; subst hc
    exact ⟨(Array.getElem?_eq_some_iff.1 hh).1, h1, hb⟩

/-- 'clear(s[i:])' -/
theorem run_clear {W : World} {base g n cap : Nat} {xs : List Int} (h : W.ownsRow base 3 1 (.slice (some ⟨g, 0, none⟩) n cap) n (ints xs)) (i c : Nat) (hi : i < n) :
    ∃ W', (Builtin.clear_ #[23] 0 #[.slice (some ⟨g, i, none⟩) (n - i) c]).run Try.prog W = .ok (.tuple #[]) W' ∧ W'.ownsRow base 3 1 (.slice (some ⟨g, 0, none⟩) i cap) i (ints (xs.take i)) ∧ W.grownBy W' (some g) ∧ W'.heap.size = W.heap.size := by
  have hl : xs.length = n := by have := h.1; simpa using this
  rcases h.2 with ⟨h', _⟩ | ⟨g', cap', cur, h', hb, hh, h1, h2, h3, h4⟩
  · cases h'
  · have hg : g = g' := by injection h' with h'; injection h' with h'; injection h' with h'
    have hc : cap = cap' := by injection h'
    subst hg; subst hc
    have hz : (Builtin.zeroCells (Value.int .i64 0).cells (n - i)).toList = List.replicate (n - i) (.int .i64 0) := by
      apply List.ext_getElem
      · simp [Builtin.zeroCells, Value.cells]
      · intro j h1 h2
        simp [Builtin.zeroCells, Value.cells, Nat.mod_one]
    have hst := run_storeCells_at Try.prog g i 3 (List.replicate (n - i) (.int .i64 0)) 0 cur W hh (by simp; omega) (by intro v hv; rw [List.eq_of_mem_replicate hv]; rfl)
    obtain ⟨d, hd⟩ : ∃ d, n - i = d + 1 := ⟨n - i - 1, by omega⟩
    refine ⟨W.setRow g (cur.toList.take (i + 0) ++ List.replicate (n - i) (Value.int .i64 0) ++ cur.toList.drop (i + 0 + (List.replicate (n - i) (Value.int .i64 0)).length)).toArray, ?_, ?_⟩
    · rw [hd] at hz hst ⊢
      simp only [Builtin.clear_, List.getElem?_toArray, List.getElem?_cons_zero, Sem.run_bind, run_underlying Try.underlying23, Result.andThen_ok, zero3, hz, hst]
      rfl
    · refine ⟨⟨by simp; omega, .inr ⟨g, cap, (cur.toList.take (i + 0) ++ List.replicate (n - i) (Value.int .i64 0) ++ cur.toList.drop (i + 0 + (List.replicate (n - i) (Value.int .i64 0)).length)).toArray, rfl, hb, ?_, by omega, h2, by simp; omega, ?_⟩⟩, ?_, ?_⟩
      · simp only [World.setRow, Array.getElem?_modify, if_true, hh, Option.map_some]
      · simp only [List.toList_toArray, Nat.add_zero, Nat.mul_one]
        rw [List.append_assoc, List.take_append_of_le_length (by simp; omega), List.take_take, Nat.min_self]
        have h5 : cur.toList.take i = (cur.toList.take (n * 1)).take i := by rw [List.take_take]; congr 1; omega
        rw [h5, h4, ← List.map_take]
      · refine ⟨rfl, rfl, rfl, by simp [World.setRow], fun k hk hne => ?_⟩
        simp only [World.setRow, Array.getElem?_modify]
        rw [if_neg (fun e => hne (by rw [e]))]
      · simp [World.setRow]

def keep (p : Int → Bool) (xs : List Int) : List Int := xs.filter fun x => !p x
theorem keep_snoc (p : Int → Bool) (xs : List Int) (k : Nat) (hk : k < xs.length) : keep p (xs.take (k + 1)) = keep p (xs.take k) ++ if p (nth xs k) then [] else [nth xs k] := by
  have hn : nth xs k = xs[k] := by simp [nth, List.getD_eq_getElem?_getD, List.getElem?_eq_getElem hk]
  rw [List.take_succ_eq_append_getElem hk, hn]
  unfold keep
  rw [List.filter_append]
  cases h : p xs[k] <;> simp [h]
theorem keep_len (p : Int → Bool) (xs : List Int) : (keep p xs).length ≤ xs.length := List.length_filter_le _ _
theorem keep_all (p : Int → Bool) (xs : List Int) (k : Nat) (h : ∀ j, j < k → p (nth xs j) = false) (hk : k ≤ xs.length) : keep p (xs.take k) = xs.take k := by
  unfold keep
  rw [List.filter_eq_self]
  intro a ha
  obtain ⟨j, hj, rfl⟩ := List.mem_iff_getElem.1 ha
  have hj' : j < k := by simp at hj; omega
  have := h j hj'
  simp [nth, List.getD_eq_getElem?_getD, List.getElem?_eq_getElem (show j < xs.length by omega)] at this
  simp [this]

/-- between two rounds: ys the row's content, i kept of the first j -/
structure DSt (w : World) (base g n cap : Nat) (p : Int → Bool) (xs : List Int) (i j : Nat) (wr : World) : Prop where
  row : ∃ ys, wr.ownsRow base 3 1 (.slice (some ⟨g, 0, none⟩) n cap) n (ints ys) ∧ ys.take i = keep p (xs.take j) ∧ ∀ k, j ≤ k → k < n → nth ys k = nth xs k
  ix : i = (keep p (xs.take j)).length
  le : i < j ∧ j ≤ n
  old : ∀ b, b < w.heap.size → b ≠ g → wr.heap[b]? = w.heap[b]?
  gr : w.grownBy wr (some g)

set_option maxHeartbeats 1000000 in
theorem delete_any (base g n cap : Nat) (xs : List Int) (f : Nat) (lb : Array Value) (eg : ∀ args w, (callFunc f args).run Try.prog w = .ok (.enter f args) w) (p : Int → Bool) (w : World)
    (h : w.ownsRow base 3 1 (.slice (some ⟨g, 0, none⟩) n cap) n (ints xs)) (hn : n ≤ 1000000)
    (hp : ∀ j, j < n → ∀ W : World, (∀ b, b < w.heap.size → b ≠ g → W.heap[b]? = w.heap[b]?) → Calls Try.prog f (#[.int .i64 (nth xs j)] ++ lb) W fun e W' => e = .returned (.bool (p (nth xs j))) ∧ W = W') :
    Calls Try.prog 32 #[.slice (some ⟨g, 0, none⟩) n cap, .func (.func f) #[] lb] w fun e w' => ∃ m, m = (keep p xs).length ∧ e = .returned (.slice (some ⟨g, 0, none⟩) m cap) ∧ w'.ownsRow base 3 1 (.slice (some ⟨g, 0, none⟩) m cap) m (ints (keep p xs)) ∧ w.grownBy w' (some g) := by
  have hl : xs.length = n := by have := h.1; simpa using this
  obtain ⟨hg, hcap, _⟩ := own_lt h
  have hrd : RInts w (some ⟨g, 0, none⟩) n xs := ⟨hl, by omega, fun _ => ⟨g, 0, rfl, fun j hj => by rw [Nat.zero_add]; exact (own_at h j hj).1⟩⟩
  have hidx := indexInts f lb eg (fun j => p (nth xs j)) (some ⟨g, 0, none⟩) n cap xs w hrd (fun j hj W hW => (hp j hj W (fun b hb _ => hW.block b hb)).mono (by rintro e W' ⟨rfl, rfl⟩; exact ⟨rfl, Below.refl _ _⟩))
  clear hrd
  cases hF : (List.range n).find? (fun j => p (nth xs j)) with
  | none =>
    have hall : ∀ j, j < n → p (nth xs j) = false := by
      rw [List.find?_range_eq_none] at hF
      intro j hj
      simpa using hF j hj
    rw [firstIdx_miss _ n hall] at hidx
    have hk : keep p xs = xs := by
      have := keep_all p xs n hall (by omega)
      rwa [List.take_of_length_le (by omega)] at this
    clear hp hF hall
    go_enter Try.func32, Try.ntmps32
    go_wp2_with (go_at_call 52; refine hidx.mono ?_; rintro e w' ⟨rfl, hb'⟩)
    go_ret
    exact ⟨n, by rw [hk, hl], rfl, by rw [hk]; exact own_ext h hb', ⟨hb'.os, hb'.tape, hb'.output, hb'.size, fun k hk _ => hb'.block k hk⟩⟩
  | some i0 =>
    rw [List.find?_range_eq_some] at hF
    obtain ⟨hpi, hi0, hbefore⟩ := hF
    have hi0 : i0 < n := by simpa using hi0
    have hbef : ∀ j, j < i0 → p (nth xs j) = false := fun j hj => by simpa using hbefore j hj
    rw [firstIdx_hit _ n i0 hi0 hpi hbef] at hidx
    clear hbefore
    have hz : ((i0 : Int) == -1) = false := beq_f (by omega)
    have S0 : ∀ w', Ext w w' → DSt w base g n cap p xs i0 (i0 + 1) w' := fun w' hb' => by
      have hk : keep p (xs.take (i0 + 1)) = xs.take i0 := by
        rw [keep_snoc p xs i0 (by omega), keep_all p xs i0 hbef (by omega), if_pos hpi, List.append_nil]
      exact ⟨⟨xs, own_ext h hb', hk.symm, fun k _ _ => rfl⟩, by rw [hk, List.length_take]; omega, ⟨by omega, by omega⟩, fun b hb _ => hb'.block b hb, ⟨hb'.os, hb'.tape, hb'.output, hb'.size, fun k hk _ => hb'.block k hk⟩⟩
    have HL := Lib.hid hl
    clear hl hbef hpi
    go_enter Try.func32, Try.ntmps32
    go_wp2_with (go_at_call 52; refine hidx.mono ?_; rintro e w' ⟨rfl, hb'⟩)
    go_loopw [5, 6, 7] (fun s5 s6 _ wr => ∃ i j : Nat, s5 = .int .i64 i ∧ s6 = .int .i64 j ∧ DSt w base g n cap p xs i j wr) (fun _ t _ _ => n - (intOf t).toNat)
    case atStart => exact ⟨i0, i0 + 1, rfl, by go_num, S0 _ hb'⟩
    case round =>
      obtain ⟨i, j, rfl, rfl, S⟩ := hrel
      obtain ⟨hij, hjn⟩ := S.le
      have hgl : g < wr.heap.size := Nat.lt_of_lt_of_le hg S.gr.size
      clear S0 hidx hi0 hz
      by_cases hlt : j < n
      · obtain ⟨ys, hrow, htk, hdr⟩ := S.row
        obtain ⟨hc1, _⟩ := own_at hrow j hlt
        obtain ⟨hc2, hc3⟩ := own_at hrow i (by omega)
        rw [hdr j (Nat.le_refl _) hlt] at hc1
        have hcall := hp j hlt wr S.old
        have hks := keep_snoc p xs j (by rw [HL.out]; exact hlt)
        clear hp
        cases hq : p (nth xs j) with
        | true =>
          rw [hq] at hcall hks
          simp only [if_true, List.append_nil] at hks
          have S' : DSt w base g n cap p xs i (j + 1) wr := ⟨⟨ys, hrow, by rw [hks]; exact htk, fun k h1 h2 => hdr k (by omega) h2⟩, by rw [hks]; exact S.ix, ⟨by omega, by omega⟩, S.old, S.gr⟩
          clear hq hks htk hdr S hrow
          go_wp2_with (refine hcall.mono ?_; rintro e w' ⟨rfl, rfl⟩)
          go_roundw
          case rel => exact ⟨i, j + 1, rfl, by go_num, S'⟩
          case measure => (simp [intOf]; omega)
        | false =>
          rw [hq] at hcall hks
          simp only [Bool.false_eq_true, if_false] at hks
          obtain ⟨hst, hgr⟩ := own_store hrow i (nth xs j)
          have hyl : ys.length = n := by have := hrow.1; simpa using this
          have S' : DSt w base g n cap p xs (i + 1) (j + 1) (wr.setCell ⟨g, i, none⟩ (.int .i64 (nth xs j))) := by
            refine ⟨⟨_, hst, ?_, fun k h1 h2 => ?_⟩, ?_, ⟨by omega, by omega⟩, fun b hb hne => ?_, S.gr.trans hgr⟩
            · rw [hks, ← htk]
              rw [List.take_succ_eq_append_getElem (by simp; omega)]
              rw [List.take_set_of_le (Nat.le_refl i)]
              simp
            · rw [← hdr k (by omega) h2]
              unfold nth
              simp only [List.getD_eq_getElem?_getD]
              rw [List.getElem?_set_ne (by omega)]
            · rw [hks, List.length_append, ← S.ix]; rfl
            · rw [hgr.block b (Nat.lt_of_lt_of_le hb S.gr.size) (fun e => hne (Option.some.inj e))]; exact S.old b hb hne
          clear hq hks htk hdr S hrow hst hgr hyl
          go_wp2_with (refine hcall.mono ?_; rintro e w' ⟨rfl, rfl⟩)
          go_roundw
          case rel => exact ⟨i + 1, j + 1, by go_num, by go_num, S'⟩
          case measure => (simp [intOf]; omega)
      · obtain rfl : j = n := by omega
        obtain ⟨ys, hrow, htk, hdr⟩ := S.row
        obtain ⟨w2, hclr, hrow2, hgr2, _⟩ := run_clear hrow i (cap - i) hij
        have hix := Lib.hid S.ix
        have hgr := S.gr.trans hgr2
        clear S hdr hp
        have hkx : xs.take j = xs := List.take_of_length_le (by rw [HL.out]; exact Nat.le_refl _)
        rw [hkx] at htk hix
        have HT := Lib.hid htk
        clear htk hkx
        go_wp2
        go_ret
        exact ⟨i, hix.out, rfl, by rw [← HT.out]; exact hrow2, hgr⟩

end Go.Proofs.Ytiapdpbcnbgdmaa

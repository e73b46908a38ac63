import Derived.Test.YtiapdpbcnbgdmaaPt
import Derived.Deep.OwnRows
set_option linter.unusedVariables false
set_option linter.unusedSimpArgs false
namespace Go.Proofs.Ytiapdpbcnbgdmaa
open Go.RowKit

/-- What v.partitions(classes) hands back reads this. -/
structure Parts (w : World) (base : Nat) (B1 B3 B4 g : Nat) (A1 : Option Addr) (n c1 : Nat) (cl : List Int) (v0 v1 : Value) (r2 : Nat) (AP : Int × Int → Option Bool) : Prop where
  k1 : w.cell? ⟨B1, 0, none⟩ = some (.slice A1 n c1)
  k3 : w.cell? ⟨B3, 0, none⟩ = some (.slice (some ⟨g, 0, none⟩) n n)
  k4 : w.heap[B4]? = some (.cells #[v0, v1, .map (some r2)] 52 (0, 0))
  row : ∃ hs, w.ownsRow base 3 1 (.slice (some ⟨g, 0, none⟩) n n) n (ints hs)
  ne : B1 ≠ g ∧ B3 ≠ g ∧ B4 ≠ g ∧ base ≤ B1 ∧ base ≤ B3 ∧ base ≤ B4
  lo : r2 < base ∧ ∀ b off, A1 = some ⟨b, off, none⟩ → b < base
  rd : RInts w A1 n cl
  mp : MapFn w r2 kvP vvB AP

set_option maxHeartbeats 2000000 in
theorem iter_any {w : World} {base B1 B3 B4 g : Nat} {A1 : Option Addr} {n c1 : Nat} {cl : List Int} {v0 v1 : Value} {r2 : Nat} {AP : Int × Int → Option Bool} (F : Parts w base B1 B3 B4 g A1 n c1 cl v0 v1 r2 AP) (hn : n ≤ 1000000)
    (bad : Nat → Prop) (hbad : ∀ k, bad k → k < base) (hbr : ¬ bad r2 ∧ ∀ b off, A1 = some ⟨b, off, none⟩ → ¬ bad b)
    (J' : List (List Int) → World → Prop) (W1 : World) (hJ : ∀ pre A B, J' pre A → Kept (fun k => k = g) A B → J' pre B)
    (hY : ∀ pre x W, J' pre W → W.ownsRow base 3 1 (.slice (some ⟨g, 0, none⟩) n n) n (ints x) → YieldAt Fence.wide 0 Try.prog (w.heap.size + 1) #[.slice (some ⟨g, 0, none⟩) n n] W fun e W' => e = .returned (.bool true) ∧ J' (pre ++ [x]) W' ∧ Kept (fun k => bad k ∨ k = w.heap.size + 1) W W')
    (hx : Ext w W1) (hl : w.heap.size + 1 < W1.heap.size) (h0 : J' [] W1) :
    Calls Try.prog 63 (#[.func (.yield (w.heap.size + 1)) #[] #[]] ++ #[.pointer (some ⟨B1, 0, none⟩), .pointer (some ⟨B3, 0, none⟩), .pointer (some ⟨B4, 0, none⟩)]) W1 fun e W' => (∃ v, e = .returned v) ∧ J' (enum AP cl n []) W' := by
  obtain ⟨hs, hrow⟩ := F.row
  have hlen : hs.length = n := by have := hrow.1; simpa using this
  have hgl := (own_lt hrow).1
  have hgb := (own_lt hrow).2.2
  have b1 := World.block_lt_of_cell? _ _ F.k1
  have b3 := World.block_lt_of_cell? _ _ F.k3
  have b4 := (Array.getElem?_eq_some_iff.1 F.k4).1
  dsimp only at b1 b3
  obtain ⟨W2, HW2⟩ : ∃ W2, Hid (W2 = (W1.alloc (.cells #[.func (.yield (w.heap.size + 1)) #[] #[]] 46)).alloc (.cells #[.func (.func 64) #[] #[.pointer (some ⟨B1, 0, none⟩), .pointer (some ⟨W1.heap.size, 0, none⟩), .pointer (some ⟨B3, 0, none⟩), .pointer (some ⟨B4, 0, none⟩), .pointer (some ⟨W1.heap.size + 1, 0, none⟩)]] 58)) := ⟨_, rfl⟩
  have hx2 : Ext W1 W2 := by rw [HW2.out]; exact Ext.trans (ext_alloc _ _) (ext_alloc _ _)
  have hxx := Ext.trans hx hx2
  have kk2 : W2.cell? ⟨W1.heap.size, 0, none⟩ = some (.func (.yield (w.heap.size + 1)) #[] #[]) := by rw [HW2.out]; exact cell_ext (ext_alloc _ _) (cell_new1 _ _ _)
  have kk5 : W2.cell? ⟨W1.heap.size + 1, 0, none⟩ = some (.func (.func 64) #[] #[.pointer (some ⟨B1, 0, none⟩), .pointer (some ⟨W1.heap.size, 0, none⟩), .pointer (some ⟨B3, 0, none⟩), .pointer (some ⟨B4, 0, none⟩), .pointer (some ⟨W1.heap.size + 1, 0, none⟩)]) := by
    rw [HW2.out]
    have := cell_new1 (W1.alloc (.cells #[.func (.yield (w.heap.size + 1)) #[] #[]] 46)) (.func (.func 64) #[] #[.pointer (some ⟨B1, 0, none⟩), .pointer (some ⟨W1.heap.size, 0, none⟩), .pointer (some ⟨B3, 0, none⟩), .pointer (some ⟨B4, 0, none⟩), .pointer (some ⟨W1.heap.size + 1, 0, none⟩)]) 58
    rwa [World.size_alloc] at this
  have hbase : base ≤ w.heap.size := by omega
  obtain ⟨n1, n3, n4, l1, l3, l4⟩ := F.ne
  obtain ⟨lr, lA⟩ := F.lo
  have E : PEnv W2 (fun k => k = g ∨ bad k ∨ k = w.heap.size + 1) (w.heap.size + 1) g n n B1 W1.heap.size B3 B4 (W1.heap.size + 1) A1 c1 cl v0 v1 r2 AP := {
    k1 := cell_ext hxx F.k1
    k2 := kk2
    k3 := cell_ext hxx F.k3
    k4 := (hxx.block _ b4).trans F.k4
    k5 := kk5
    safe := ⟨fun h => by rcases h with h | h | h; exact n1 h; (have := hbad _ h; omega); omega, fun h => by rcases h with h | h | h; omega; (have := hbad _ h; omega); omega, fun h => by rcases h with h | h | h; exact n3 h; (have := hbad _ h; omega); omega,
      fun h => by rcases h with h | h | h; exact n4 h; (have := hbad _ h; omega); omega, fun h => by rcases h with h | h | h; omega; (have := hbad _ h; omega); omega, fun h => by rcases h with h | h | h; omega; exact hbr.1 h; omega,
      fun b off e h => by have hb := lA b off e; rcases h with h | h | h; omega; exact hbr.2 b off e h; omega⟩
    rd := F.rd.ext hxx
    mp := F.mp.same (hxx.block _ F.mp.lt) }
  have hput := put_any E ⟨fun h => by have := hbad _ h; omega, by omega⟩ hn J' hJ hY n [] hs [] W2 (by simp) (own_ext hrow hxx) rfl (Kept.refl _ _) (hJ _ _ _ h0 (.of_ext hx2))
  rw [List.length_nil] at hput
  have hsto := store_new (P := Try.prog) (W1.alloc (.cells #[.func (.yield (w.heap.size + 1)) #[] #[]] 46)) .nilFunc (.func (.func 64) #[] #[.pointer (some ⟨B1, 0, none⟩), .pointer (some ⟨W1.heap.size, 0, none⟩), .pointer (some ⟨B3, 0, none⟩), .pointer (some ⟨B4, 0, none⟩), .pointer (some ⟨W1.heap.size + 1, 0, none⟩)]) 58 rfl
  rw [World.size_alloc] at hsto
  have hput0 := hput.mono (fun e W' (h : e = .returned (.bool true) ∧ J' ([] ++ enum AP cl n []) W' ∧ _) => And.intro h.1 (by have := h.2.1; rwa [List.nil_append] at this : J' (enum AP cl n []) W'))
  have kk5' := kk5
  rw [HW2.out] at kk5'
  clear hY hJ h0 F E hput hrow
  go_enter Try.func63, Try.ntmps63
  go_wp2_with (go_at_call 64; rw [← HW2.out]; refine hput0.mono ?_; rintro e W' ⟨rfl, hJf⟩)
  go_end0
  exact ⟨⟨_, rfl⟩, hJf⟩

set_option maxHeartbeats 1000000 in
theorem partitions_any {w : World} {A1 : Option Addr} {n c1 : Nat} {cl : List Int} {v0 v1 : Value} {r2 : Nat} {AP : Int × Int → Option Bool} (h1 : RInts w A1 n cl) (hA : MapFn w r2 kvP vvB AP) (hn : n ≤ 1000000) (hn0 : 0 < n) :
    Calls Try.prog 53 #[.agg #[v0, v1, .map (some r2)], .slice A1 n c1] w fun e w' => ∃ B1 B3 B4 g, e = .returned (.func (.func 63) #[] #[.pointer (some ⟨B1, 0, none⟩), .pointer (some ⟨B3, 0, none⟩), .pointer (some ⟨B4, 0, none⟩)]) ∧ Parts w' w.heap.size B1 B3 B4 g A1 n c1 cl v0 v1 r2 AP ∧ Ext w w' := by
  have hmk := run_make_row' (P := Try.prog) 23 3 (.int .i64 0) 8 Try.underlying23 info3 rfl .i64 .i64 n (by omega) (by omega)
  go_enter Try.func53, Try.ntmps53
  go_wp2
  obtain ⟨b, off, rfl, hc⟩ := h1.cell hn0
  have hb : b < w.heap.size := World.block_lt_of_cell? _ _ (hc 0 hn0)
  have hrl := hA.lt
  have x1 := ext_alloc w (.cells #[v0, v1, .map (some r2)] 52)
  have x2 := ext_alloc (w.alloc (.cells #[v0, v1, .map (some r2)] 52)) (.cells #[.slice (some ⟨b, off, none⟩) n c1] 23)
  have x3 := ext_alloc ((w.alloc (.cells #[v0, v1, .map (some r2)] 52)).alloc (.cells #[.slice (some ⟨b, off, none⟩) n c1] 23)) (.cells (madeCells #[.int .i64 0] n) 3)
  have x4 := ext_alloc (((w.alloc (.cells #[v0, v1, .map (some r2)] 52)).alloc (.cells #[.slice (some ⟨b, off, none⟩) n c1] 23)).alloc (.cells (madeCells #[.int .i64 0] n) 3)) (.cells #[.slice (some ⟨w.heap.size + 1 + 1, 0, none⟩) n n] 23)
  have q4 := heap_alloc_new w (.cells #[v0, v1, .map (some r2)] 52)
  have q1 := cell_new1 (w.alloc (.cells #[v0, v1, .map (some r2)] 52)) (.slice (some ⟨b, off, none⟩) n c1) 23
  have q3 := cell_new1 (((w.alloc (.cells #[v0, v1, .map (some r2)] 52)).alloc (.cells #[.slice (some ⟨b, off, none⟩) n c1] 23)).alloc (.cells (madeCells #[.int .i64 0] n) 3)) (.slice (some ⟨w.heap.size + 1 + 1, 0, none⟩) n n) 23
  have q5 := own_made ((w.alloc (.cells #[v0, v1, .map (some r2)] 52)).alloc (.cells #[.slice (some ⟨b, off, none⟩) n c1] 23)) w.heap.size n (by simp; omega) hn
  simp only [World.size_alloc] at q1 q3 q5
  have xall := Ext.trans (Ext.trans (Ext.trans x1 x2) x3) x4
  refine bodyPost_ret (v := .func (.func 63) #[] #[.pointer (some ⟨w.heap.size + 1, 0, none⟩), .pointer (some ⟨w.heap.size + 1 + 1 + 1, 0, none⟩), .pointer (some ⟨w.heap.size, 0, none⟩)]) (by simp [results, Try.results53, go_sem]) rfl ⟨w.heap.size + 1, w.heap.size + 1 + 1 + 1, w.heap.size, w.heap.size + 1 + 1, rfl, ?_, xall⟩
  exact {
    k1 := cell_ext x4 (cell_ext x3 q1)
    k3 := q3
    k4 := (x4.block _ (by simp; omega)).trans ((x3.block _ (by simp; omega)).trans ((x2.block _ (by simp)).trans q4))
    row := ⟨_, own_ext q5 x4⟩
    ne := ⟨by omega, by omega, by omega, by omega, by omega, Nat.le_refl _⟩
    lo := ⟨hrl, fun b' off' e => by cases e; exact hb⟩
    rd := h1.ext xall
    mp := hA.same (xall.block _ hrl) }

end Go.Proofs.Ytiapdpbcnbgdmaa

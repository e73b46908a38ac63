import Derived.Test.YtiapdpbcnbgdmaaProg
import Derived.WalkKit
import Derived.WalkLawsBesides
import Derived.WalkSpells
import Derived.Deep.QuietTactic
import Derived.BigQuiet
import Derived.LoopTactic
import Derived.Deep.LoopGhost
set_option linter.unusedVariables false
set_option linter.unusedSimpArgs false
namespace Go.Proofs.Ytiapdpbcnbgdmaa
open Go.RowKit

/-- The j-th of a list. -/
def nth (xs : List Int) (j : Nat) : Int := xs.getD j 0
structure E3 where
  a : Int
  b : Int
  w : Int
  deriving Inhabited
def eth (es : List E3) (j : Nat) : E3 := es.getD j ⟨0, 0, 0⟩
def pth (ps : List (Int × Int)) (j : Nat) : Int × Int := ps.getD j (0, 0)
def maxN : Nat := 35184372088832

/-- a slice of ints that is read -/
structure RInts (w : World) (A : Option Addr) (n : Nat) (xs : List Int) : Prop where
  len : xs.length = n
  big : n ≤ 35184372088832
  cell : 0 < n → ∃ b off, A = some ⟨b, off, none⟩ ∧ ∀ j, j < n → w.cell? ⟨b, off + j, none⟩ = some (.int .i64 (nth xs j))
structure REdges (w : World) (A : Option Addr) (n : Nat) (es : List E3) : Prop where
  len : es.length = n
  big : n ≤ 35184372088832
  cell : 0 < n → ∃ b off, A = some ⟨b, off, none⟩ ∧ ∀ j, j < n → w.cell? ⟨b, off + j * 3, none⟩ = some (.int .i64 (eth es j).a) ∧ w.cell? ⟨b, off + j * 3 + 1, none⟩ = some (.int .i64 (eth es j).b) ∧ w.cell? ⟨b, off + j * 3 + 2, none⟩ = some (.int .i64 (eth es j).w)
structure RPairs (w : World) (A : Option Addr) (n : Nat) (ps : List (Int × Int)) : Prop where
  len : ps.length = n
  big : n ≤ 35184372088832
  cell : 0 < n → ∃ b off, A = some ⟨b, off, none⟩ ∧ ∀ j, j < n → w.cell? ⟨b, off + j * 2, none⟩ = some (.int .i64 (pth ps j).1) ∧ w.cell? ⟨b, off + j * 2 + 1, none⟩ = some (.int .i64 (pth ps j).2)

theorem cell_ext {w w1 : World} (h : Below w.heap.size w w1) {a : Addr} {v : Value} (hc : w.cell? a = some v) : w1.cell? a = some v := (h.cell (World.block_lt_of_cell? w a hc)).trans hc
theorem RInts.ext {w w1 : World} {A n xs} (h : RInts w A n xs) (hb : Below w.heap.size w w1) : RInts w1 A n xs :=
  ⟨h.len, h.big, fun hn => let ⟨b, off, e, hc⟩ := h.cell hn; ⟨b, off, e, fun j hj => cell_ext hb (hc j hj)⟩⟩
theorem REdges.ext {w w1 : World} {A n xs} (h : REdges w A n xs) (hb : Below w.heap.size w w1) : REdges w1 A n xs :=
  ⟨h.len, h.big, fun hn => let ⟨b, off, e, hc⟩ := h.cell hn; ⟨b, off, e, fun j hj => ⟨cell_ext hb (hc j hj).1, cell_ext hb (hc j hj).2.1, cell_ext hb (hc j hj).2.2⟩⟩⟩
theorem RPairs.ext {w w1 : World} {A n xs} (h : RPairs w A n xs) (hb : Below w.heap.size w w1) : RPairs w1 A n xs :=
  ⟨h.len, h.big, fun hn => let ⟨b, off, e, hc⟩ := h.cell hn; ⟨b, off, e, fun j hj => ⟨cell_ext hb (hc j hj).1, cell_ext hb (hc j hj).2⟩⟩⟩
/-- what was there is there still -/
abbrev Ext (w w' : World) : Prop := Below w.heap.size w w'
theorem Ext.trans {a b c : World} (h : Ext a b) (k : Ext b c) : Ext a c := Below.trans h (k.mono h.size)

/-- the first index at which p holds -/
def firstIdx (p : Nat → Bool) (n : Nat) : Int := match (List.range n).find? p with | some j => (j : Int) | none => -1
theorem firstIdx_hit (p : Nat → Bool) (n k : Nat) (hk : k < n) (h : p k = true) (hb : ∀ j, j < k → p j = false) : firstIdx p n = k := by
  unfold firstIdx
  have : (List.range n).find? p = some k := by
    rw [List.find?_range_eq_some]
    refine ⟨h, by simpa using hk, fun j hj => by simpa using hb j hj⟩
  rw [this]
theorem firstIdx_miss (p : Nat → Bool) (n : Nat) (hb : ∀ j, j < n → p j = false) : firstIdx p n = -1 := by
  unfold firstIdx
  have : (List.range n).find? p = none := by
    rw [List.find?_range_eq_none]
    intro i hi
    simp [hb i hi]
  rw [this]
theorem firstIdx_nonneg (p : Nat → Bool) (n : Nat) : decide (0 ≤ firstIdx p n) = (List.range n).any p := by
  unfold firstIdx
  cases h : (List.range n).find? p with
  | some j =>
    have := List.find?_some h
    have hm := List.mem_of_find?_eq_some h
    simp at hm
    simp
    exact ⟨j, hm, this⟩
  | none =>
    simp at h
    simp
    intro x hx
    simpa using h x hx

theorem hid_succ {P : Nat → Prop} {k : Nat} (h : Hid (∀ i, i < k → P i)) (hk : P k) : Hid (∀ i, i < k + 1 → P i) := by
  intro i hi
  by_cases e : i < k
  · exact h i e
  · obtain rfl : i = k := by omega
    exact hk
theorem hid_zero {P : Nat → Prop} : Hid (∀ i, i < 0 → P i) := fun i hi => absurd hi (Nat.not_lt_zero _)
theorem ret_bool {a b : Bool} (h : a = b) : Ending.returned (.bool a) = .returned (.bool b) := by rw [h]
theorem ret_int {a b : Int} (h : a = b) : Ending.returned (.int .i64 a) = .returned (.int .i64 b) := by rw [h]

end Go.Proofs.Ytiapdpbcnbgdmaa

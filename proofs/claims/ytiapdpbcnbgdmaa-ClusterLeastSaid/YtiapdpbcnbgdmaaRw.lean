import Derived.Test.YtiapdpbcnbgdmaaB
import Derived.Deep.Slices
import Derived.SizedLaws
import Derived.OpenShut
set_option linter.unusedVariables false
set_option linter.unusedSimpArgs false
namespace Go.Proofs.Ytiapdpbcnbgdmaa
open Go.RowKit

open Go.ChangeShapes Go.WideShapes Go.Deep
theorem spot_of {w : World} {a : Addr} {v : Value} (h : w.cell? a = some v) : a.spot = none := by
  unfold World.cell? at h
  split at h
  · split at h
    · cases h
    · rename_i hs
      cases ha : a.spot with
      | none => rfl
      | some x => rw [ha] at hs; simp at hs
  · cases h
theorem cells3 : Try.prog.cellsOf 3 = 1 := by kernel_rfl
theorem cells40 : Try.prog.cellsOf 40 = 3 := by kernel_rfl
theorem cells42 : Try.prog.cellsOf 42 = 2 := by kernel_rfl
theorem bytes3 : Try.prog.bytesOf 3 = 8 := by kernel_rfl
theorem bytes40 : Try.prog.bytesOf 40 = 24 := by kernel_rfl
theorem bytes42 : Try.prog.bytesOf 42 = 16 := by kernel_rfl
section
variable {H : Type} {enc : TypeId × Value → H} {W : World}
theorem one_int {n : Nat} {cs : List Value} {x : DataW H × List MemPlace} (h : DataW.trod enc Try.prog W 0 (fun _ => true) true n 3 cs = some x) : ∃ z : Int, cs = [.int .i64 z] := by
  obtain ⟨z, hz, _⟩ := DataW.trod_int Try.underlying3 h
  exact ⟨z, hz⟩
theorem two_ints {n : Nat} {cs : List Value} {x : DataW H × List MemPlace} (h : DataW.trod enc Try.prog W 0 (fun _ => true) true n 42 cs = some x) : ∃ p : Int × Int, cs = [.int .i64 p.1, .int .i64 p.2] := by
  obtain ⟨xs, m, _, _, hl, hxl, hf⟩ := DataW.trod_array Try.underlying42 h
  rw [cells42] at hl
  match cs, hl with
  | [v0, v1], _ =>
    have h0 := hf 0 (by omega)
    have h1 := hf 1 (by omega)
    rw [cells3] at h0 h1
    simp only [Nat.zero_mul, Nat.one_mul, List.drop_zero, List.take_succ_cons, List.take_zero, List.drop_succ_cons] at h0 h1
    rw [List.getElem?_eq_getElem (by omega)] at h0 h1
    obtain ⟨z0, e0⟩ := one_int h0
    obtain ⟨z1, e1⟩ := one_int h1
    simp only [List.cons.injEq, and_true] at e0 e1
    exact ⟨(z0, z1), by rw [e0, e1]⟩
theorem three_ints {n : Nat} {cs : List Value} {x : DataW H × List MemPlace} (h : DataW.trod enc Try.prog W 0 (fun _ => true) true n 40 cs = some x) : ∃ e : E3, cs = [.int .i64 e.a, .int .i64 e.b, .int .i64 e.w] := by
  obtain ⟨xs, m, _, _, hl, hxl, hf⟩ := DataW.trod_struct Try.underlying40 h
  rw [cells40] at hl
  match cs, hl with
  | [v0, v1, v2], _ =>
    have h0 : DataW.trod enc Try.prog W 0 (fun _ => true) true m 3 (([v0, v1, v2].drop 0).take (Try.prog.cellsOf 3)) = xs[0]? := hf 0 _ rfl
    have h1 : DataW.trod enc Try.prog W 0 (fun _ => true) true m 3 (([v0, v1, v2].drop 1).take (Try.prog.cellsOf 3)) = xs[1]? := hf 1 _ rfl
    have h2 : DataW.trod enc Try.prog W 0 (fun _ => true) true m 3 (([v0, v1, v2].drop 2).take (Try.prog.cellsOf 3)) = xs[2]? := hf 2 _ rfl
    have hx3 : xs.length = 3 := hxl
    rw [cells3] at h0 h1 h2
    simp only [List.drop_zero, List.take_succ_cons, List.take_zero, List.drop_succ_cons] at h0 h1 h2
    rw [List.getElem?_eq_getElem (by omega)] at h0 h1 h2
    obtain ⟨z0, e0⟩ := one_int h0
    obtain ⟨z1, e1⟩ := one_int h1
    obtain ⟨z2, e2⟩ := one_int h2
    simp only [List.cons.injEq, and_true] at e0 e1 e2
    exact ⟨⟨z0, z1, z2⟩, by rw [e0, e1, e2]⟩
theorem slice_opened {t e : TypeId} {A : Option Addr} {len cap : Nat} {d : DataW H} {ps : List MemPlace} {ts : List TypeId} {ds : List (DataW H)} {j B C : Nat} (hu : Try.prog.underlying t = some (.slice e)) (hC : Try.prog.cellsOf e = C) (hC0 : 0 < C) (hB : Try.prog.bytesOf e = B) (h8 : 8 ≤ B)
    (hsz : (DataW.weightsEach Try.prog ts ds).all (· ≤ reachBytes) = true) (ht : ts[j]? = some t) (hd : ds[j]? = some d)
    (h : DataW.Trod enc Try.prog W 0 (fun _ => true) true t (.slice A len cap) d ps) :
    len ≤ 35184372088832 ∧ (0 < len → ∃ b off, A = some ⟨b, off, none⟩) ∧ ∀ b off, A = some ⟨b, off, none⟩ → ∀ i, i < len → ∃ cs' n x, cs'.length = C ∧ (∀ k, k < C → W.cell? ⟨b, off + i * C + k, none⟩ = cs'[k]?) ∧ DataW.trod enc Try.prog W 0 (fun _ => true) true n e cs' = some x := by
  obtain ⟨fuel, hf⟩ := h
  rcases open_slice hu hf with ⟨hcs, _⟩ | ⟨a, l, c, m, n, D, Pl, hcs, _, hl, hm, hmm, hx, hel⟩
  · simp [Value.cells] at hcs
    obtain ⟨rfl, rfl, rfl⟩ := hcs
    exact ⟨by omega, fun h => absurd h (by omega), fun b off e => by cases e⟩
  · simp [Value.cells] at hcs
    obtain ⟨rfl, rfl, rfl⟩ := hcs
    simp only [if_true] at hmm
    subst hmm
    obtain ⟨hx, _⟩ := Prod.mk.inj hx
    have hw := sized_slice hsz ht (by rw [hd, hx]) hu
    rw [hB] at hw
    simp only [List.length_map, List.length_range] at hw
    have hr : reachBytes < 2 ^ 47 := reachBytes_lt
    have hlen : len * 8 ≤ (len + (m - len)) * B := Nat.mul_le_mul (by omega) h8
    have hsp : 0 < m → a.spot = none := fun h0 => by
      obtain ⟨cs', h1, _⟩ := hel 0 h0
      obtain ⟨_, hl', hc⟩ := World.cells?_some h1
      have := hc 0 (by rw [hC]; exact hC0)
      rw [Nat.zero_mul] at this
      have e0 : (a.add 0).add 0 = a := rfl
      rw [e0] at this
      cases hv : cs'[0]? with
      | none => rw [List.getElem?_eq_none_iff] at hv; omega
      | some v => rw [hv] at this; exact spot_of this
    refine ⟨by omega, fun h0 => ⟨a.block, a.off, ?_⟩, fun b off e i hi => ?_⟩
    · have := hsp (by omega)
      obtain ⟨b, o, s⟩ := a
      simp only at this
      rw [this]
    · have e := Option.some.inj e
      subst e
      obtain ⟨cs', h1, h2⟩ := hel i (by omega)
      obtain ⟨_, hl', hc⟩ := World.cells?_some h1
      rw [hC] at hl' hc
      refine ⟨cs', n, _, hl', fun k hk => ?_, h2⟩
      have := hc k hk
      rw [Addr.add_lit, Addr.add_lit] at this
      exact this
theorem reads_ints {A : Option Addr} {len cap : Nat} {d : DataW H} {ps : List MemPlace} {ts : List TypeId} {ds : List (DataW H)} {j : Nat} (hsz : (DataW.weightsEach Try.prog ts ds).all (· ≤ reachBytes) = true) (ht : ts[j]? = some 23) (hd : ds[j]? = some d)
    (h : DataW.Trod enc Try.prog W 0 (fun _ => true) true 23 (.slice A len cap) d ps) : ∃ xs, RInts W A len xs := by
  obtain ⟨h1, h2, h3⟩ := slice_opened Try.underlying23 cells3 (by omega) bytes3 (by omega) hsz ht hd h
  by_cases h0 : 0 < len
  · obtain ⟨b, off, rfl⟩ := h2 h0
    obtain ⟨f, hf⟩ := choose_lt (n := len) (p := fun i (z : Int) => W.cell? ⟨b, off + i, none⟩ = some (.int .i64 z)) (fun i hi => by
      obtain ⟨cs', n, x, hl, hc, ht'⟩ := h3 b off rfl i hi
      obtain ⟨z, rfl⟩ := one_int ht'
      exact ⟨z, by simpa using hc 0 (by omega)⟩)
    refine ⟨(List.range len).map f, by simp, h1, fun _ => ⟨b, off, rfl, fun i hi => ?_⟩⟩
    rw [hf i hi]
    simp [nth, List.getD_eq_getElem?_getD, hi]
  · exact ⟨[], by simp; omega, h1, fun h => absurd h h0⟩
theorem reads_pairs {A : Option Addr} {len cap : Nat} {d : DataW H} {ps : List MemPlace} {ts : List TypeId} {ds : List (DataW H)} {j : Nat} (hsz : (DataW.weightsEach Try.prog ts ds).all (· ≤ reachBytes) = true) (ht : ts[j]? = some 24) (hd : ds[j]? = some d)
    (h : DataW.Trod enc Try.prog W 0 (fun _ => true) true 24 (.slice A len cap) d ps) : ∃ xs, RPairs W A len xs := by
  obtain ⟨h1, h2, h3⟩ := slice_opened Try.underlying24 cells42 (by omega) bytes42 (by omega) hsz ht hd h
  by_cases h0 : 0 < len
  · obtain ⟨b, off, rfl⟩ := h2 h0
    obtain ⟨f, hf⟩ := choose_lt (n := len) (p := fun i (z : Int × Int) => W.cell? ⟨b, off + i * 2, none⟩ = some (.int .i64 z.1) ∧ W.cell? ⟨b, off + i * 2 + 1, none⟩ = some (.int .i64 z.2)) (fun i hi => by
      obtain ⟨cs', n, x, hl, hc, ht'⟩ := h3 b off rfl i hi
      obtain ⟨z, rfl⟩ := two_ints ht'
      exact ⟨z, by simpa using hc 0 (by omega), by simpa using hc 1 (by omega)⟩)
    refine ⟨(List.range len).map f, by simp, h1, fun _ => ⟨b, off, rfl, fun i hi => ?_⟩⟩
    have e : pth ((List.range len).map f) i = f i := by simp [pth, List.getD_eq_getElem?_getD, hi]
    rw [e]
    exact hf i hi
  · exact ⟨[], by simp; omega, h1, fun h => absurd h h0⟩
theorem reads_edges {A : Option Addr} {len cap : Nat} {d : DataW H} {ps : List MemPlace} {ts : List TypeId} {ds : List (DataW H)} {j : Nat} (hsz : (DataW.weightsEach Try.prog ts ds).all (· ≤ reachBytes) = true) (ht : ts[j]? = some 22) (hd : ds[j]? = some d)
    (h : DataW.Trod enc Try.prog W 0 (fun _ => true) true 22 (.slice A len cap) d ps) : ∃ xs, REdges W A len xs := by
  obtain ⟨h1, h2, h3⟩ := slice_opened Try.underlying22 cells40 (by omega) bytes40 (by omega) hsz ht hd h
  by_cases h0 : 0 < len
  · obtain ⟨b, off, rfl⟩ := h2 h0
    obtain ⟨f, hf⟩ := choose_lt (n := len) (p := fun i (z : E3) => W.cell? ⟨b, off + i * 3, none⟩ = some (.int .i64 z.a) ∧ W.cell? ⟨b, off + i * 3 + 1, none⟩ = some (.int .i64 z.b) ∧ W.cell? ⟨b, off + i * 3 + 2, none⟩ = some (.int .i64 z.w)) (fun i hi => by
      obtain ⟨cs', n, x, hl, hc, ht'⟩ := h3 b off rfl i hi
      obtain ⟨z, rfl⟩ := three_ints ht'
      exact ⟨z, by simpa using hc 0 (by omega), by simpa using hc 1 (by omega), by simpa using hc 2 (by omega)⟩)
    refine ⟨(List.range len).map f, by simp, h1, fun _ => ⟨b, off, rfl, fun i hi => ?_⟩⟩
    have e : eth ((List.range len).map f) i = f i := by simp [eth, List.getD_eq_getElem?_getD, hi]
    rw [e]
    exact hf i hi
  · exact ⟨[], by simp; omega, h1, fun h => absurd h h0⟩
end

end Go.Proofs.Ytiapdpbcnbgdmaa

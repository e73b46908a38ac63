import Derived.Test.YtiapdpbcnbgdmaaRg
set_option linter.unusedVariables false
set_option linter.unusedSimpArgs false
namespace Go.Proofs.Ytiapdpbcnbgdmaa
open Go.RowKit

/-- What comes behind a beginning: the class with the next index joins the cluster that the class k begins, or begins one. -/
def enum (AP : Int × Int → Option Bool) (cl : List Int) : Nat → List Int → List (List Int)
  | 0, pfx => [pfx]
  | d + 1, pfx => (List.range (pfx.length + 1)).flatMap fun k =>
    if k < pfx.length ∧ nth pfx k ≠ nth cl k then [] else if clashB AP cl (pfx ++ [nth cl k]) pfx.length = true then [] else enum AP cl d (pfx ++ [nth cl k])
def enumTo (AP : Int × Int → Option Bool) (cl : List Int) (d : Nat) (pfx : List Int) (j : Nat) : List (List Int) := (List.range j).flatMap fun k =>
    if k < pfx.length ∧ nth pfx k ≠ nth cl k then [] else if clashB AP cl (pfx ++ [nth cl k]) pfx.length = true then [] else enum AP cl d (pfx ++ [nth cl k])
section
variable {AP : Int × Int → Option Bool} {cl : List Int} {d : Nat} {pfx : List Int} {j : Nat}
theorem enumTo_end : enum AP cl (d + 1) pfx = enumTo AP cl d pfx (pfx.length + 1) := rfl
theorem enumTo_skip (h : j < pfx.length ∧ nth pfx j ≠ nth cl j) : enumTo AP cl d pfx (j + 1) = enumTo AP cl d pfx j := by
  unfold enumTo
  rw [List.range_succ, List.flatMap_append]
  simp [h]
theorem enumTo_clash (h : clashB AP cl (pfx ++ [nth cl j]) pfx.length = true) : enumTo AP cl d pfx (j + 1) = enumTo AP cl d pfx j := by
  unfold enumTo
  rw [List.range_succ, List.flatMap_append]
  simp [h]
theorem enumTo_take (h1 : ¬ (j < pfx.length ∧ nth pfx j ≠ nth cl j)) (h : clashB AP cl (pfx ++ [nth cl j]) pfx.length = false) : enumTo AP cl d pfx (j + 1) = enumTo AP cl d pfx j ++ enum AP cl d (pfx ++ [nth cl j]) := by
  unfold enumTo
  rw [List.range_succ, List.flatMap_append]
  simp only [List.flatMap_cons, List.flatMap_nil, List.append_nil]
  rw [if_neg h1, if_neg (by simp [h])]
end
theorem clashB_congr {AP : Int × Int → Option Bool} {cl hs hs' : List Int} {at_ : Nat} (h : ∀ k, k ≤ at_ → nth hs k = nth hs' k) : clashB AP cl hs at_ = clashB AP cl hs' at_ := by
  unfold clashB
  rw [Bool.eq_iff_iff, List.any_eq_true, List.any_eq_true]
  constructor
  · rintro ⟨k, hk, hc⟩
    refine ⟨k, hk, ?_⟩
    have : k < at_ := by simpa using hk
    unfold clashK at hc ⊢
    rwa [← h k (by omega), ← h at_ (Nat.le_refl _)]
  · rintro ⟨k, hk, hc⟩
    refine ⟨k, hk, ?_⟩
    have : k < at_ := by simpa using hk
    unfold clashK at hc ⊢
    rwa [h k (by omega), h at_ (Nat.le_refl _)]
theorem own_same {W W' : World} {base g n cap : Nat} {xs : List Value} (h : W.ownsRow base 3 1 (.slice (some ⟨g, 0, none⟩) n cap) n xs) (hh : W'.heap[g]? = W.heap[g]?) : W'.ownsRow base 3 1 (.slice (some ⟨g, 0, none⟩) n cap) n xs := by
  refine ⟨h.1, ?_⟩
  rcases h.2 with ⟨h', _⟩ | ⟨g', cap', cur, h', hb, hk, h1⟩
  · cases h'
  · have hg : g = g' := by injection h' with h'; injection h' with h'; injection h' with h'
    subst hg
    exact .inr ⟨g, cap', cur, h', hb, hh.trans hk, h1⟩
theorem nth_take {xs : List Int} {k n : Nat} (h : k < n) : nth (xs.take n) k = nth xs k := by
  unfold nth
  simp only [List.getD_eq_getElem?_getD, List.getElem?_take, if_pos h]
theorem take_set {hs pfx : List Int} {x : Int} (hl : pfx.length < hs.length) (h : hs.take pfx.length = pfx) : (hs.set pfx.length x).take (pfx.length + 1) = pfx ++ [x] := by
  rw [List.take_add_one]
  rw [List.take_set_of_le (Nat.le_refl _), h]
  simp [hl]

/-- What put reads, in w0; X names the blocks that turn. -/
structure PEnv (w0 : World) (X : Nat → Prop) (l g n cap : Nat) (B1 B2 B3 B4 B5 : Nat) (A1 : Option Addr) (c1 : Nat) (cl : List Int) (v0 v1 : Value) (r2 : Nat) (AP : Int × Int → Option Bool) : Prop where
  k1 : w0.cell? ⟨B1, 0, none⟩ = some (.slice A1 n c1)
  k2 : w0.cell? ⟨B2, 0, none⟩ = some (.func (.yield l) #[] #[])
  k3 : w0.cell? ⟨B3, 0, none⟩ = some (.slice (some ⟨g, 0, none⟩) n cap)
  k4 : w0.heap[B4]? = some (.cells #[v0, v1, .map (some r2)] 52 (0, 0))
  k5 : w0.cell? ⟨B5, 0, none⟩ = some (.func (.func 64) #[] #[.pointer (some ⟨B1, 0, none⟩), .pointer (some ⟨B2, 0, none⟩), .pointer (some ⟨B3, 0, none⟩), .pointer (some ⟨B4, 0, none⟩), .pointer (some ⟨B5, 0, none⟩)])
  safe : ¬ X B1 ∧ ¬ X B2 ∧ ¬ X B3 ∧ ¬ X B4 ∧ ¬ X B5 ∧ ¬ X r2 ∧ ∀ b off, A1 = some ⟨b, off, none⟩ → ¬ X b
  rd : RInts w0 A1 n cl
  mp : MapFn w0 r2 kvP vvB AP
section
variable {w0 W : World} {X : Nat → Prop} {l g n cap : Nat} {B1 B2 B3 B4 B5 : Nat} {A1 : Option Addr} {c1 : Nat} {cl : List Int} {v0 v1 : Value} {r2 : Nat} {AP : Int × Int → Option Bool}
theorem PEnv.rd' (E : PEnv w0 X l g n cap B1 B2 B3 B4 B5 A1 c1 cl v0 v1 r2 AP) (K : Kept X w0 W) : RInts W A1 n cl :=
  ⟨E.rd.len, E.rd.big, fun hn => let ⟨b, off, e, hc⟩ := E.rd.cell hn; ⟨b, off, e, fun j hj => K.cell (hc j hj) (E.safe.2.2.2.2.2.2 b off e)⟩⟩
theorem PEnv.mp' (E : PEnv w0 X l g n cap B1 B2 B3 B4 B5 A1 c1 cl v0 v1 r2 AP) (K : Kept X w0 W) : MapFn W r2 kvP vvB AP := E.mp.same (K.block _ E.mp.lt E.safe.2.2.2.2.2.1)
theorem PEnv.kk4 (E : PEnv w0 X l g n cap B1 B2 B3 B4 B5 A1 c1 cl v0 v1 r2 AP) (K : Kept X w0 W) : W.cell? ⟨B4, 0, none⟩ = some v0 ∧ W.cell? ⟨B4, 1, none⟩ = some v1 ∧ W.cell? ⟨B4, 2, none⟩ = some (.map (some r2)) := by
  have h := (K.block B4 (Array.getElem?_eq_some_iff.1 E.k4).1 E.safe.2.2.2.1).trans E.k4
  exact ⟨(cells_of h 0 rfl).1, (cells_of h 1 rfl).1, (cells_of h 2 rfl).1⟩
end

attribute [local go_sem] Oper.semAt_some
set_option maxHeartbeats 2000000 in
theorem put_any {w0 : World} {bad : Nat → Prop} {l g n cap base : Nat} {B1 B2 B3 B4 B5 : Nat} {A1 : Option Addr} {c1 : Nat} {cl : List Int} {v0 v1 : Value} {r2 : Nat} {AP : Int × Int → Option Bool}
    (E : PEnv w0 (fun k => k = g ∨ bad k ∨ k = l) l g n cap B1 B2 B3 B4 B5 A1 c1 cl v0 v1 r2 AP) (hgb : ¬ bad g ∧ g ≠ l) (hn : n ≤ 1000000)
    (J : List (List Int) → World → Prop) (hJ : ∀ pre A B, J pre A → Kept (fun k => k = g) A B → J pre B)
    (hY : ∀ pre x W, J pre W → W.ownsRow base 3 1 (.slice (some ⟨g, 0, none⟩) n cap) n (ints x) → YieldAt Fence.wide 0 Try.prog l #[.slice (some ⟨g, 0, none⟩) n cap] W fun e W' => e = .returned (.bool true) ∧ J (pre ++ [x]) W' ∧ Kept (fun k => bad k ∨ k = l) W W') :
    ∀ (d : Nat) (pfx hs : List Int) (pre : List (List Int)) (W : World), pfx.length + d = n → W.ownsRow base 3 1 (.slice (some ⟨g, 0, none⟩) n cap) n (ints hs) → hs.take pfx.length = pfx → Kept (fun k => k = g ∨ bad k ∨ k = l) w0 W → J pre W →
    Calls Try.prog 64 #[.int .i64 pfx.length, .pointer (some ⟨B1, 0, none⟩), .pointer (some ⟨B2, 0, none⟩), .pointer (some ⟨B3, 0, none⟩), .pointer (some ⟨B4, 0, none⟩), .pointer (some ⟨B5, 0, none⟩)] W fun e W' =>
      e = .returned (.bool true) ∧ J (pre ++ enum AP cl d pfx) W' ∧ (∃ hs', W'.ownsRow base 3 1 (.slice (some ⟨g, 0, none⟩) n cap) n (ints hs') ∧ hs'.take pfx.length = pfx) ∧ Kept (fun k => k = g ∨ bad k ∨ k = l) w0 W' := by
  intro d
  induction d with
  | zero =>
    intro pfx hs pre W hl hrow htk K hJp
    obtain rfl : pfx.length = n := by omega
    have hlen : hs.length = pfx.length := by have := hrow.1; simpa using this
    obtain rfl : hs = pfx := by rw [← htk, ← hlen, List.take_length]
    obtain ⟨fn, tmps, assign, body, hy, hR⟩ := hY pre hs W hJp hrow
    have k1 := K.cell E.k1 E.safe.1
    have k2 := K.cell E.k2 E.safe.2.1
    have k3 := K.cell E.k3 E.safe.2.2.1
    have HE := Lib.hid hY
    clear hY
    refine (callsIn_wide (n := 1)).1 ?_
    refine callsIn_of_wp Try.func64 rfl trivial ?_ rfl
    simp only [Try.ntmps64, List.size_toArray, List.length_cons, List.length_nil, Nat.reduceAdd, Nat.reduceSub, Array.replicate_succ, Array.replicate_zero, List.push_toArray, List.append_toArray, List.nil_append, List.cons_append]
    gi_wp2
    refine hR.mono ?_
    rintro e W' ⟨rfl, hJ', hk⟩
    have hglt : g < W.heap.size := (own_lt hrow).1
    have hfin : J (pre ++ enum AP cl 0 hs) W' ∧ (∃ hs', W'.ownsRow base 3 1 (.slice (some ⟨g, 0, none⟩) hs.length cap) hs.length (ints hs') ∧ hs'.take hs.length = hs) ∧ Kept (fun k => k = g ∨ bad k ∨ k = l) w0 W' :=
      ⟨hJ', ⟨hs, own_same hrow (hk.block g hglt (fun h => h.elim hgb.1 hgb.2)), htk⟩, K.trans (hk.mono (fun k _ h => .inr h))⟩
    have HF := Lib.hid hfin
    clear hJ' hk K hR hrow hJp hfin
    gi_wp2
    go_ret
    exact ⟨rfl, HF.out⟩
  | succ d ih =>
    intro pfx hs pre W hl hrow htk K hJp
    have hlen : hs.length = n := by have := hrow.1; simpa using this
    have hatn : pfx.length < n := by omega
    obtain ⟨at_, hat⟩ : ∃ at_, at_ = pfx.length := ⟨_, rfl⟩
    have k1 := K.cell E.k1 E.safe.1
    have hne : (pfx.length : Int) ≠ n := by omega
    have hneb : ((pfx.length : Int) == (n : Int)) = false := beq_f hne
    have HE := Lib.hid hY
    clear hY
    rw [enumTo_end]
    go_enter Try.func64, Try.ntmps64
    go_wp2
    go_loopw [8, 18] (fun _ t wr => ∃ (k : Nat) (hs' : List Int), k ≤ pfx.length + 1 ∧ t = .int .i64 k ∧ wr.ownsRow base 3 1 (.slice (some ⟨g, 0, none⟩) n cap) n (ints hs') ∧ Hid (hs'.take pfx.length = pfx) ∧ Kept (fun k => k = g ∨ bad k ∨ k = l) w0 wr ∧ J (pre ++ enumTo AP cl d pfx k) wr) (fun _ t _ => pfx.length + 1 - (intOf t).toNat)
    case atStart => exact ⟨0, hs, Nat.zero_le _, rfl, hrow, htk, K, by simpa [enumTo] using hJp⟩
    case round =>
      obtain ⟨k, hs', hk, rfl, hrow', htk', K', hJ'⟩ := hrel
      have hlen' : hs'.length = n := by have := hrow'.1; simpa using this
      have hxdn := Kept.of_ext (X := fun k => k = g) (ext_drewN wr 0)
      by_cases hlt : k < pfx.length + 1
      · have hkn : k < n := by omega
        obtain ⟨gc, oc, rfl, kc⟩ := E.rd.cell (by omega)
        have x1 := K'.cell (kc k hkn) (E.safe.2.2.2.2.2.2 gc oc rfl)
        have k1' := K'.cell E.k1 E.safe.1
        have k3' := K'.cell E.k3 E.safe.2.2.1
        obtain ⟨y1, -⟩ := own_at hrow' k hkn
        have hpk : k < pfx.length → nth hs' k = nth pfx k := fun h => by rw [← nth_take h, htk'.out]
        have htset : Hid ((hs'.set pfx.length (nth cl k)).take pfx.length = pfx) := by
          show _ = _
          rw [List.take_set_of_le (Nat.le_refl _)]; exact htk'.out
        have htset2 : Hid ((hs'.set pfx.length (nth cl k)).take (pfx ++ [nth cl k]).length = pfx ++ [nth cl k]) := by
          show _ = _
          have := take_set (x := nth cl k) (show pfx.length < hs'.length by omega) htk'.out
          simpa using this
        have hccongr : clashB AP cl (hs'.set pfx.length (nth cl k)) pfx.length = clashB AP cl (pfx ++ [nth cl k]) pfx.length := clashB_congr (fun j hj => by
          rw [← nth_take (xs := hs'.set pfx.length (nth cl k)) (n := (pfx ++ [nth cl k]).length) (by simp; omega), htset2.out])
        have hll : (((pfx ++ [nth cl k]).length : Nat) : Int) = (pfx.length : Int) + 1 := by simp
        have hcalls := fun (pre : List (List Int)) W h1 h2 h3 h4 => ih (pfx ++ [nth cl k]) (hs'.set pfx.length (nth cl k)) pre W (by simp; omega) h1 h2 h3 h4
        rw [hll] at hcalls
        clear ih kc hrow htk K hJp k1 hne hll
        by_cases hns : k < pfx.length ∧ nth pfx k ≠ nth cl k
        · have hen := Lib.hid (enumTo_skip (AP := AP) (d := d) hns)
          have hg1 : decide ((k : Int) < pfx.length) = true := by simp; exact hns.1
          have hg2 : (nth hs' k != nth cl k) = true := bne_t (by rw [hpk hns.1]; exact hns.2)
          have hkl := hns.1
          clear hns hpk hccongr hcalls htset htset2
          go_wp2
          go_quiet (fail)
          go_wp2
          go_roundw
          case rel => exact ⟨k + 1, hs', by omega, by go_num, own_ext hrow' (ext_drewN _ _), htk', K'.trans (.of_ext (ext_drewN _ _)), by rw [hen.out]; exact hJ _ _ _ hJ' (.of_ext (ext_drewN _ _))⟩
          case measure => (simp [intOf]; omega)
        · by_cases hkl : k < pfx.length
          · have heq : nth hs' k = nth cl k := by rw [hpk hkl]; exact Classical.byContradiction fun h => hns ⟨hkl, h⟩
            have hg1 : decide ((k : Int) < pfx.length) = true := by simp; exact hkl
            have hg2 : (nth hs' k != nth cl k) = false := bne_f heq
            clear hpk
            go_wp2
            go_quiet (fail)
            go_wp2
            obtain ⟨W1, HW1⟩ : ∃ W1, Hid (W1 = wr.drewN nq) := ⟨_, rfl⟩
            rw [← HW1.out]
            have hx1 : Ext wr W1 := by rw [HW1.out]; exact ext_drewN _ _
            have row1 := own_ext hrow' hx1
            have KW1 := K'.trans (.of_ext hx1)
            have JW1 := hJ _ _ _ hJ' (.of_ext hx1)
            obtain ⟨q2, q3⟩ := own_at row1 pfx.length hatn
            have dk1 : W1.drew.cell? ⟨B1, 0, none⟩ = some (.slice (some ⟨gc, oc, none⟩) n c1) := KW1.cell E.k1 E.safe.1
            have dk3 : W1.drew.cell? ⟨B3, 0, none⟩ = some (.slice (some ⟨g, 0, none⟩) n cap) := KW1.cell E.k3 E.safe.2.2.1
            have dx1 : W1.drew.cell? ⟨gc, oc + k, none⟩ = some (.int .i64 (nth cl k)) := cell_ext hx1 x1
            have dq2 : W1.drew.cell? ⟨g, pfx.length, none⟩ = some (.int .i64 (nth hs' pfx.length)) := q2
            have dq3 : W1.drew.frozen? ⟨g, pfx.length, none⟩ = false := q3
            clear k1' k3' x1 y1
            refine wp_region_flow 7 [] (fun _ W => W = W1.drew) (by kernel_rfl) (by kernel_rfl) rfl ?_
            simp only [List.take_succ_cons, List.take_zero, List.drop_succ_cons, List.drop_zero]
            refine flow_pure (.slice (some ⟨g, 0, none⟩) n cap) rfl rfl (fun b W hW => by cases hW; simp [go_sem, dk3]) ?_
            refine flow_pure (.int .i64 pfx.length) rfl rfl (fun b W hW => by cases hW; simp [go_sem]) ?_
            refine flow_pure (.slice (some ⟨gc, oc, none⟩) n c1) rfl rfl (fun b W hW => by cases hW; simp [go_sem, dk1]) ?_
            refine flow_pure (.int .i64 k) rfl rfl (fun b W hW => by cases hW; simp [go_sem]) ?_
            refine flow_pure (.pointer (some ⟨gc, oc + k, none⟩)) rfl rfl (fun b W hW => by cases hW; simp [go_sem, hkn]) ?_
            refine flow_pure (.int .i64 (nth cl k)) rfl rfl (fun b W hW => by cases hW; simp [go_sem, dx1]) ?_
            refine flow_pure (.pointer (some ⟨g, pfx.length, none⟩)) rfl rfl (fun b W hW => by cases hW; simp [go_sem, hatn]) ?_
            refine flow_nil fun W hW => ?_
            obtain rfl : W = W1.drew := hW
            go_frame
            obtain ⟨W2, HW2⟩ : ∃ W2, Hid (W2 = W1.drew.setCell ⟨g, pfx.length, none⟩ (.int .i64 (nth cl k))) := ⟨_, rfl⟩
            refine wpList_skip rfl (w' := W2) (by rw [HW2.out]; simp [go_sem, dq2, dq3]) ?_
            go_frame
            obtain ⟨hst, hgs⟩ := own_store (own_ext row1 (ext_drew W1)) pfx.length (nth cl k)
            rw [← HW2.out] at hst hgs
            have hg2 : Kept (fun k => k = g) W1 W2 := (Kept.of_ext (ext_drew W1)).trans (.of_grown hgs rfl)
            have KW2 := KW1.trans (hg2.mono (fun k _ h => .inl h))
            have JW2 := hJ _ _ _ JW1 hg2
            clear hgs dk1 dk3 dx1 dq2 dq3 q2 q3 row1 KW1 JW1 hrow' K' hJ' hg2 HW2
            have e1 := KW2.cell E.k1 E.safe.1
            have e3 := KW2.cell E.k3 E.safe.2.2.1
            obtain ⟨e4, e5, e6⟩ := E.kk4 KW2
            have hcla := clash_any v0 v1 r2 AP (some ⟨gc, oc, none⟩) n c1 cl (some ⟨g, 0, none⟩) cap (hs'.set pfx.length (nth cl k)) pfx.length W2 (E.mp' KW2) (E.rd' KW2)
              ⟨by simpa using hlen', by omega, fun _ => ⟨g, 0, rfl, fun j hj => by rw [Nat.zero_add]; exact (own_at hst j hj).1⟩⟩ hatn
            rw [hccongr] at hcla
            cases hcb : clashB AP cl (pfx ++ [nth cl k]) pfx.length with
            | true =>
              rw [hcb] at hcla
              have hen := Lib.hid (enumTo_clash (d := d) hcb)
              clear hcb hcalls
              go_wp2_with (go_at_call 65; refine hcla.mono ?_; rintro e W3 ⟨rfl, hx3⟩)
              go_roundw
              case rel => exact ⟨k + 1, _, by omega, by go_num, own_ext hst hx3, htset.out, KW2.trans (.of_ext hx3), by rw [hen.out]; exact hJ _ _ _ JW2 (.of_ext hx3)⟩
              case measure => (simp [intOf]; omega)
            | false =>
              rw [hcb] at hcla
              have hen := Lib.hid (enumTo_take (d := d) hns hcb)
              clear hcb
              have hcl3 : ∀ W3, Ext W2 W3 → _ := fun W3 hx3 => hcalls _ W3 (own_ext hst hx3) htset2.out (KW2.trans (.of_ext hx3)) (hJ _ _ _ JW2 (.of_ext hx3))
              go_wp2_with (first | (go_at_call 65; refine hcla.mono ?_; rintro e W3 ⟨rfl, hx3⟩; have e5' := cell_ext hx3 (KW2.cell E.k5 E.safe.2.2.2.2.1)) | (go_at_call 64; refine (hcl3 _ hx3).mono ?_; rintro e W4 ⟨rfl, hJ4, ⟨hs4, hrow4, htk4⟩, K4⟩))
              have htk5 : hs4.take pfx.length = pfx := by
                have h6 : (hs4.take (pfx ++ [nth cl k]).length).take pfx.length = (pfx ++ [nth cl k]).take pfx.length := by rw [htk4]
                rw [List.take_take, List.take_left'] at h6
                · simpa using h6
                · rfl
              go_roundw
              case rel => exact ⟨k + 1, hs4, by omega, by go_num, hrow4, htk5, K4, by rw [hen.out, ← List.append_assoc]; exact hJ4⟩
              case measure => (simp [intOf]; omega)

          · have hg1 : decide ((k : Int) < pfx.length) = false := by simp; omega
            clear hpk
            go_wp2
            go_quiet (fail)
            go_wp2
            obtain ⟨W1, HW1⟩ : ∃ W1, Hid (W1 = wr.drewN nq) := ⟨_, rfl⟩
            rw [← HW1.out]
            have hx1 : Ext wr W1 := by rw [HW1.out]; exact ext_drewN _ _
            have row1 := own_ext hrow' hx1
            have KW1 := K'.trans (.of_ext hx1)
            have JW1 := hJ _ _ _ hJ' (.of_ext hx1)
            obtain ⟨q2, q3⟩ := own_at row1 pfx.length hatn
            have dk1 : W1.drew.cell? ⟨B1, 0, none⟩ = some (.slice (some ⟨gc, oc, none⟩) n c1) := KW1.cell E.k1 E.safe.1
            have dk3 : W1.drew.cell? ⟨B3, 0, none⟩ = some (.slice (some ⟨g, 0, none⟩) n cap) := KW1.cell E.k3 E.safe.2.2.1
            have dx1 : W1.drew.cell? ⟨gc, oc + k, none⟩ = some (.int .i64 (nth cl k)) := cell_ext hx1 x1
            have dq2 : W1.drew.cell? ⟨g, pfx.length, none⟩ = some (.int .i64 (nth hs' pfx.length)) := q2
            have dq3 : W1.drew.frozen? ⟨g, pfx.length, none⟩ = false := q3
            clear k1' k3' x1 y1
            refine wp_region_flow 7 [] (fun _ W => W = W1.drew) (by kernel_rfl) (by kernel_rfl) rfl ?_
            simp only [List.take_succ_cons, List.take_zero, List.drop_succ_cons, List.drop_zero]
            refine flow_pure (.slice (some ⟨g, 0, none⟩) n cap) rfl rfl (fun b W hW => by cases hW; simp [go_sem, dk3]) ?_
            refine flow_pure (.int .i64 pfx.length) rfl rfl (fun b W hW => by cases hW; simp [go_sem]) ?_
            refine flow_pure (.slice (some ⟨gc, oc, none⟩) n c1) rfl rfl (fun b W hW => by cases hW; simp [go_sem, dk1]) ?_
            refine flow_pure (.int .i64 k) rfl rfl (fun b W hW => by cases hW; simp [go_sem]) ?_
            refine flow_pure (.pointer (some ⟨gc, oc + k, none⟩)) rfl rfl (fun b W hW => by cases hW; simp [go_sem, hkn]) ?_
            refine flow_pure (.int .i64 (nth cl k)) rfl rfl (fun b W hW => by cases hW; simp [go_sem, dx1]) ?_
            refine flow_pure (.pointer (some ⟨g, pfx.length, none⟩)) rfl rfl (fun b W hW => by cases hW; simp [go_sem, hatn]) ?_
            refine flow_nil fun W hW => ?_
            obtain rfl : W = W1.drew := hW
            go_frame
            obtain ⟨W2, HW2⟩ : ∃ W2, Hid (W2 = W1.drew.setCell ⟨g, pfx.length, none⟩ (.int .i64 (nth cl k))) := ⟨_, rfl⟩
            refine wpList_skip rfl (w' := W2) (by rw [HW2.out]; simp [go_sem, dq2, dq3]) ?_
            go_frame
            obtain ⟨hst, hgs⟩ := own_store (own_ext row1 (ext_drew W1)) pfx.length (nth cl k)
            rw [← HW2.out] at hst hgs
            have hg2 : Kept (fun k => k = g) W1 W2 := (Kept.of_ext (ext_drew W1)).trans (.of_grown hgs rfl)
            have KW2 := KW1.trans (hg2.mono (fun k _ h => .inl h))
            have JW2 := hJ _ _ _ JW1 hg2
            clear hgs dk1 dk3 dx1 dq2 dq3 q2 q3 row1 KW1 JW1 hrow' K' hJ' hg2 HW2
            have e1 := KW2.cell E.k1 E.safe.1
            have e3 := KW2.cell E.k3 E.safe.2.2.1
            obtain ⟨e4, e5, e6⟩ := E.kk4 KW2
            have hcla := clash_any v0 v1 r2 AP (some ⟨gc, oc, none⟩) n c1 cl (some ⟨g, 0, none⟩) cap (hs'.set pfx.length (nth cl k)) pfx.length W2 (E.mp' KW2) (E.rd' KW2)
              ⟨by simpa using hlen', by omega, fun _ => ⟨g, 0, rfl, fun j hj => by rw [Nat.zero_add]; exact (own_at hst j hj).1⟩⟩ hatn
            rw [hccongr] at hcla
            cases hcb : clashB AP cl (pfx ++ [nth cl k]) pfx.length with
            | true =>
              rw [hcb] at hcla
              have hen := Lib.hid (enumTo_clash (d := d) hcb)
              clear hcb hcalls
              go_wp2_with (go_at_call 65; refine hcla.mono ?_; rintro e W3 ⟨rfl, hx3⟩)
              go_roundw
              case rel => exact ⟨k + 1, _, by omega, by go_num, own_ext hst hx3, htset.out, KW2.trans (.of_ext hx3), by rw [hen.out]; exact hJ _ _ _ JW2 (.of_ext hx3)⟩
              case measure => (simp [intOf]; omega)
            | false =>
              rw [hcb] at hcla
              have hen := Lib.hid (enumTo_take (d := d) hns hcb)
              clear hcb
              have hcl3 : ∀ W3, Ext W2 W3 → _ := fun W3 hx3 => hcalls _ W3 (own_ext hst hx3) htset2.out (KW2.trans (.of_ext hx3)) (hJ _ _ _ JW2 (.of_ext hx3))
              go_wp2_with (first | (go_at_call 65; refine hcla.mono ?_; rintro e W3 ⟨rfl, hx3⟩; have e5' := cell_ext hx3 (KW2.cell E.k5 E.safe.2.2.2.2.1)) | (go_at_call 64; refine (hcl3 _ hx3).mono ?_; rintro e W4 ⟨rfl, hJ4, ⟨hs4, hrow4, htk4⟩, K4⟩))
              have htk5 : hs4.take pfx.length = pfx := by
                have h6 : (hs4.take (pfx ++ [nth cl k]).length).take pfx.length = (pfx ++ [nth cl k]).take pfx.length := by rw [htk4]
                rw [List.take_take, List.take_left'] at h6
                · simpa using h6
                · rfl
              go_roundw
              case rel => exact ⟨k + 1, hs4, by omega, by go_num, hrow4, htk5, K4, by rw [hen.out, ← List.append_assoc]; exact hJ4⟩
              case measure => (simp [intOf]; omega)

      · obtain rfl : k = pfx.length + 1 := by omega
        clear ih hrow htk K hJp
        go_wp2
        go_ret
        exact ⟨rfl, hJ', ⟨hs', hrow', htk'.out⟩, K'⟩

end Go.Proofs.Ytiapdpbcnbgdmaa

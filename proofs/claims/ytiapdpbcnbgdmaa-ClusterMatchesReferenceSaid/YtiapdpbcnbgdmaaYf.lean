import Derived.Test.YtiapdpbcnbgdmaaYa
import Derived.Test.YtiapdpbcnbgdmaaYd
import Derived.Test.YtiapdpbcnbgdmaaYe
import Derived.Deep.CutBlock
set_option linter.unusedVariables false
set_option linter.unusedSimpArgs false
namespace Go.Proofs.Ytiapdpbcnbgdmaa
open Go.RowKit

theorem of_bt {a b : Int} (h : (a == b) = true) : a = b := by simpa using h
theorem of_bf {a b : Int} (h : (a == b) = false) : ¬ a = b := by simpa using h
/-- what out holds -/
def OutR (same cl E0 : List Int) (m L : Nat) (w : World) (o : Value) : Option (List Int) → Prop
  | none => o = .slice none 0 0
  | some b => ∃ A' c', o = .slice A' m c' ∧ RInts w A' m (entN same cl E0 b m L)
theorem OutR.ext {same cl E0 : List Int} {m L : Nat} {w w' : World} {o : Value} {r : Option (List Int)} (h : OutR same cl E0 m L w o r) (hx : Ext w w') : OutR same cl E0 m L w' o r := by
  cases r with
  | none => exact h
  | some b => obtain ⟨A', c', h1, h2⟩ := h; exact ⟨A', c', h1, h2.ext hx⟩
set_option maxRecDepth 100000 in
set_option maxHeartbeats 8000000 in
theorem refBest_any (A : Option Addr) (n c : Nat) (es : List E3) (A1 : Option Addr) (m c1 : Nat) (same : List Int) (A2 : Option Addr) (q c2 : Nat) (ps : List (Int × Int)) (A3 : Option Addr) (L c3 : Nat) (cl E0 : List Int)
    (hm : m ≤ 2000) (hm0 : 0 < m) (hv : ValidP same) (hsl : same.length = m) (hpl : ps.length = q) (hel : E0.length = m) (hcl : cl.length = L) (K : ClOk same m cl) (hp : GoodP m ps q) :
    ∀ (d : Nat) (pfx : List Int), pfx.length + d = L → PfxOk cl pfx → ∀ (A5 : Option Addr) (c5 : Nat) (w : World), REdges w A n es → RInts w A1 m same → RPairs w A2 q ps → RInts w A3 L cl → RInts w A5 m (entN same cl E0 pfx m pfx.length) →
    Calls Try.prog 41 #[.slice A n c, .slice A1 m c1, .slice A2 q c2, .slice A3 L c3, .int .i64 (pfx.length : Nat), .slice A5 m c5] w fun e w' => ∃ A' c' b, e = .returned (.slice A' m c') ∧ rbest (fun x => costTo es (entN same cl E0 x m L) n) (enum (aTo ps same q) cl d pfx) = some b ∧ RInts w' A' m (entN same cl E0 b m L) ∧ Ext w w' := by
  intro d
  induction d with
  | zero =>
    intro pfx hpd hpf A5 c5 w h h1 h2 h3 h5
    have hlen : pfx.length = L := by omega
    rw [hlen] at h5 ⊢
    have hb3 := h3.big
    go_enter Try.func41, Try.ntmps41
    go_wp2
    go_ret
    exact ⟨A5, c5, pfx, rfl, rfl, h5, ⟨rfl, rfl, rfl, Nat.le_refl _, fun _ _ => rfl⟩⟩
  | succ d ih =>
    intro pfx hpd hpf A5 c5 w h h1 h2 h3 h5
    obtain ⟨at_, hat⟩ : ∃ at_, Hid (pfx.length = at_) := ⟨_, rfl⟩
    obtain ⟨E, hE⟩ : ∃ E, Hid (entN same cl E0 pfx m pfx.length = E) := ⟨_, rfl⟩
    rw [hE.out] at h5
    rw [hat.out]
    have hb3 := h3.big
    have hbq := h2.big
    have hatL : at_ < L := by have := hat.out; omega
    have hEl : E.length = m := h5.len
    have HPL := Lib.hid hpl
    have HSL := Lib.hid hsl
    have HEL := Lib.hid hel
    have HCL := Lib.hid hcl
    have HPD := Lib.hid hpd
    have hcls : ∀ t, t < L → 0 ≤ nth cl t ∧ nth cl t < m ∧ nth same (nth cl t).toNat = nth cl t := fun t ht => by
      have := K.cls t (by omega)
      exact ⟨this.1, this.2.1, this.2.2⟩
    have hEp : ∀ t, t < at_ → nth E (nth cl t).toNat = nth pfx t := fun t ht => by
      obtain ⟨k0, k1, k2⟩ := hcls t (by omega)
      rw [← hE.out]
      have := hat.out
      exact entN_in hel K.nodup (by omega) _ (by omega) t (by omega) k2
    have HEP := Lib.hid hEp
    have hokc : ∀ k, k < at_ → okTo E same cl ps at_ (nth cl k) q = !clashB (aTo ps same q) cl (pfx ++ [nth cl k]) at_ := fun k hk => by
      have := okTo_clash (ps := ps) (c := nth cl k) K (by have := hat.out; omega) (fun t ht => hEp t (by rw [← hat.out]; exact ht))
      rw [hat.out, hpl] at this
      exact this
    have HOK := Lib.hid hokc
    have hnc : clashB (aTo ps same q) cl (pfx ++ [nth cl at_]) at_ = false := by
      have := hpf.noclash (AP := aTo ps same q) K.nodup (by have := hat.out; omega)
      rw [hat.out] at this
      exact this
    have HNC := Lib.hid hnc
    obtain ⟨Fc, hFc⟩ : ∃ Fc, Hid ((fun x => costTo es (entN same cl E0 x m L) n) = Fc) := ⟨_, rfl⟩
    rw [hFc.out] at ih ⊢
    clear hpl hel hpd hEl hEp hokc hnc
    have hne1 : ((at_ : Int) == L) = false := beq_f (by omega)
    have hneq := fun w a n c => Lib.run_eql_slice_nil (P := Try.prog) w 23 3 a n c 0 0 Try.underlying23
    go_enter Try.func41, Try.ntmps41
    go_wp2
    go_loopg [13, 14] (at_ + 1) (fun gg t13 t14 wr => ∃ (k : Nat) (o : Value), at_ + 1 - k ≤ gg ∧ k ≤ at_ + 1 ∧ t14 = .int .i64 k ∧ o = t13 ∧ Hid (at_ < k → rbest Fc (enumTo (aTo ps same q) cl d pfx k) ≠ none) ∧
      OutR same cl E0 m L wr o (rbest Fc (enumTo (aTo ps same q) cl d pfx k)) ∧ Ext w wr)
    case atStart => exact ⟨0, _, Nat.le_refl _, Nat.zero_le _, rfl, rfl, Lib.hid (fun h => absurd h (Nat.not_lt_zero _)), rfl, ⟨rfl, rfl, rfl, Nat.le_refl _, fun _ _ => rfl⟩⟩
    case round =>
      obtain ⟨k, o, hgg, hk, rfl, rfl, hne, hout, hx⟩ := hrel
      obtain ⟨wk, hwk⟩ : ∃ wk, wk = wr := ⟨wr, rfl⟩
      subst hwk
      by_cases hka : k ≤ at_
      · have hd : decide ((k : Int) ≤ at_) = true := decide_eq_true (by omega)
        obtain ⟨b1, o1, rfl, hcc1⟩ := (h1.ext hx).cell hm0
        obtain ⟨b3, o3, rfl, hcc3⟩ := (h3.ext hx).cell (by omega)
        obtain ⟨b5, o5, rfl, hcc5⟩ := (h5.ext hx).cell hm0
        have q1 := hcc3 k (by omega)
        obtain ⟨v1, W1, happ, hown1, hg1, -, -⟩ := append_ints (c := c5) (own_empty3 wk) (((h5.ext hx)).ext (ext_alloc wk (.cells #[] 3))) (by simp) (by simp) (by omega)
        rw [List.nil_append, h5.len] at hown1
        have hx1 : Ext wk W1 := (ext_alloc wk (.cells #[] 3)).grown hg1 (by simp) (fun k e => by
          have : wk.heap.size = k := by simpa [Value.ownBlock] using e
          omega)
        obtain ⟨AN, cN, rfl, hAN⟩ := own_slice hown1
        obtain ⟨gN, rfl, hga, hgb⟩ := hAN hm0
        clear hg1 hAN
        obtain ⟨ck, hck⟩ : ∃ ck, Hid (nth cl k = ck) := ⟨_, rfl⟩
        rw [hck.out] at q1
        obtain ⟨ck0, ck1, ck2⟩ := hcls k (by omega)
        rw [hck.out] at ck0 ck1 ck2
        have ckn : ((ck.toNat : Nat) : Int) = ck := Int.toNat_of_nonneg ck0
        have HCK2 := Lib.hid ck2
        clear ck2
        have q5 := cell_ext hx1 (hcc5 ck.toNat (by omega))
        have hEk : k < at_ → nth E ck.toNat = nth pfx k := fun h => by rw [← hck.out]; exact HEP.out k h
        have HEK := Lib.hid hEk
        clear hEk
        obtain ⟨sk, hsk⟩ : ∃ sk, Hid (sk = decide (k < at_ ∧ nth E ck.toNat ≠ ck)) := ⟨_, rfl⟩
        go_upto_region 9 with (at_builtin; refine wpList_app happ rfl rfl rfl rfl ?_; clear happ)
        go_cut [52] from 30 to 175 (fun s52 wz => s52 = .bool sk ∧ W1 = wz)
        case first =>
          by_cases hlt : k < at_
          · by_cases heq : nth E ck.toNat = ck
            · have hb := bne_f heq
              have HS := Lib.hid (show sk = false by rw [hsk.out]; exact decide_eq_false (fun h => h.2 heq))
              clear heq
              go_wp2
              go_meet
              case rel => exact ⟨by rw [HS.out], rfl⟩
            · have hb := bne_t heq
              have HS := Lib.hid (show sk = true by rw [hsk.out]; exact decide_eq_true ⟨hlt, heq⟩)
              clear heq
              go_wp2
              go_meet
              case rel => exact ⟨by rw [HS.out], rfl⟩
          · have HS := Lib.hid (show sk = false by rw [hsk.out]; exact decide_eq_false (fun h => hlt h.1))
            go_wp2
            go_meet
            case rel => exact ⟨by rw [HS.out], rfl⟩
        case rest =>
          obtain ⟨rfl, rfl⟩ := hcut
          cases hskv : sk with
          | true =>
            have hskip := of_decide_eq_true (hsk.out.symm.trans hskv)
            have hnx : (at_ < k + 1 → rbest Fc (enumTo (aTo ps same q) cl d pfx (k + 1)) ≠ none) ∧ OutR same cl E0 m L W1 o (rbest Fc (enumTo (aTo ps same q) cl d pfx (k + 1))) := by
              have hat1 := hat.out
              rw [enumTo_skip (by rw [hat1, hck.out, ← HEK.out hskip.1]; exact hskip)]
              exact ⟨fun h => by omega, hout.ext hx1⟩
            have HNX := Lib.hid hnx
            have hxf := Ext.trans hx hx1
            clear hnx hout hne hskip
            go_wp2
            go_roundg (at_ + 1 - (k + 1))
            case measure => exact Nat.lt_of_lt_of_le (Nat.sub_lt_sub_left (Nat.lt_succ_of_le hka) (Nat.lt_succ_self k)) hgg
            case rel => exact ⟨k + 1, o, Nat.le_refl _, by omega, by go_num, rfl, HNX.out.1, HNX.out.2, hxf⟩
          | false =>
            have hskip := of_decide_eq_false (hsk.out.symm.trans hskv)
            obtain ⟨cv, hcv⟩ : ∃ cv, Hid ((!clashB (aTo ps same q) cl (pfx ++ [ck]) at_) = cv) := ⟨_, rfl⟩
            have HSK := Lib.hid (show ¬ (k < at_ ∧ nth pfx k ≠ nth cl k) from fun h => hskip ⟨h.1, by rw [HEK.out h.1, ← hck.out]; exact h.2⟩)
            clear hskip hskv q5 q1
            go_upto_block 2 with fail
            have hcut0 := True.intro
            go_cut [17] from 30 to 175 (fun s17 wz => s17 = .bool cv ∧ W1 = wz)
            case first =>
              by_cases hlt : k < at_
              · skip
                have HOKK := Lib.hid (show okTo E same cl ps at_ ck q = !clashB (aTo ps same q) cl (pfx ++ [ck]) at_ by rw [← hck.out]; exact HOK.out k hlt)
                have hq2 := h2.ext (Ext.trans hx hx1)
                go_wp2
                go_loopg [17, 18] q (fun g1 t17 t18 wx => ∃ (j : Nat) (vo : Bool), q - j ≤ g1 ∧ j ≤ q ∧ t18 = .int .i64 j ∧ t17 = .bool vo ∧ Hid (vo = okTo E same cl ps at_ ck j) ∧ W1 = wx)
                case atStart => exact ⟨0, true, Nat.le_refl _, Nat.zero_le _, rfl, rfl, Lib.hid rfl, rfl⟩
                case round =>
                  obtain ⟨j, vo, hg1, hj, rfl, rfl, hvo, rfl⟩ := hrel
                  by_cases hjq : j < q
                  · obtain ⟨b2, o2, rfl, hcc2⟩ := hq2.cell (by omega)
                    obtain ⟨pa0, pa1, pb0, pb1⟩ := hp j hjq
                    obtain ⟨k1, k2⟩ := hcc2 j hjq
                    have hnxt : okTo E same cl ps at_ ck (j + 1) = (okTo E same cl ps at_ ck j && okIn E cl at_ ck (nth same (pth ps j).1.toNat) (nth same (pth ps j).2.toNat) at_) := rfl
                    obtain ⟨pa, pb, hP⟩ : ∃ pa pb, Hid (pth ps j = (pa, pb)) := ⟨_, _, rfl⟩
                    rw [hP.out] at k1 k2 pa0 pa1 pb0 pb1 hnxt
                    dsimp only at k1 k2 pa0 pa1 pb0 pb1 hnxt
                    have pan : ((pa.toNat : Nat) : Int) = pa := Int.toNat_of_nonneg pa0
                    have pbn : ((pb.toNat : Nat) : Int) = pb := Int.toNat_of_nonneg pb0
                    have d1 := cell_ext hx1 (hcc1 pa.toNat (by omega))
                    have d2 := cell_ext hx1 (hcc1 pb.toNat (by omega))
                    obtain ⟨sa, hsa⟩ : ∃ sa, Hid (nth same pa.toNat = sa) := ⟨_, rfl⟩
                    obtain ⟨sb, hsb⟩ : ∃ sb, Hid (nth same pb.toNat = sb) := ⟨_, rfl⟩
                    rw [hsa.out, hsb.out, ← hvo.out] at hnxt
                    rw [hsa.out] at d1
                    rw [hsb.out] at d2
                    have HN := Lib.hid hnxt
                    clear hnxt hcc2
                    go_wp2
                    go_loopw [17, 21, 22] (fun t17 t21 _ wx => ∃ (t : Nat) (vv : Bool), t ≤ at_ ∧ t21 = .int .i64 t ∧ t17 = .bool vv ∧ Hid (vv = (vo && okIn E cl at_ ck sa sb t)) ∧ W1 = wx) (fun _ t21 _ _ => at_ - (intOf t21).toNat)
                    case atStart => exact ⟨0, vo, Nat.zero_le _, rfl, rfl, Lib.hid (by simp [okIn]), rfl⟩
                    case round =>
                      obtain ⟨t, vv, ht, rfl, rfl, hvv, rfl⟩ := hrel
                      by_cases hta : t < at_
                      · have e1 := cell_ext hx1 (hcc3 t (by omega))
                        have e2 := cell_ext hx1 (hcc3 at_ (by omega))
                        obtain ⟨ct0, ct1, _⟩ := hcls t (by omega)
                        have e3 := cell_ext hx1 (hcc5 (nth cl t).toNat (by omega))
                        have hstep : (vo && okIn E cl at_ ck sa sb (t + 1)) = (vv && !decide (nth E (nth cl t).toNat = ck ∧ ((sa = nth cl t ∧ sb = nth cl at_) ∨ (sb = nth cl t ∧ sa = nth cl at_)))) := by
                          rw [okIn, hvv.out, Bool.and_assoc]; rfl
                        obtain ⟨ct, hct⟩ : ∃ ct, Hid (nth cl t = ct) := ⟨_, rfl⟩
                        obtain ⟨ca, hca⟩ : ∃ ca, Hid (nth cl at_ = ca) := ⟨_, rfl⟩
                        rw [hct.out] at e1 e3 ct0 ct1 hstep
                        rw [hca.out] at e2 hstep
                        obtain ⟨ev, hev⟩ : ∃ ev, Hid (nth E ct.toNat = ev) := ⟨_, rfl⟩
                        rw [hev.out] at e3 hstep
                        have ctn : ((ct.toNat : Nat) : Int) = ct := Int.toNat_of_nonneg ct0
                        have HS := Lib.hid hstep
                        clear hstep
                        cases f1 : (ev == ck) with
                        | true =>
                          cases f2 : (sa == ct) with
                          | true =>
                            cases f3 : (sb == ca) with
                            | true =>
                              have HG := Lib.hid (And.intro (of_bt f1) ( And.intro (of_bt f2) ( And.intro (of_bt f3) (trivial))))
                              go_wp2
                              go_roundw
                              case rel =>
                                have hg := HG.out
                                exact ⟨t + 1, _, by omega, by go_num, rfl, Lib.hid (by
                                  rw [HS.out]
                                  first
                                  | (rw [decide_eq_true (by omega)]; simp; done)
                                  | (rw [decide_eq_false (by omega)]; simp; done)), by trivial⟩
                              case measure => (simp [intOf]; omega)
                            | false =>
                              cases f4 : (sb == ct) with
                              | true =>
                                cases f5 : (sa == ca) with
                                | true =>
                                  have HG := Lib.hid (And.intro (of_bt f1) ( And.intro (of_bt f2) ( And.intro (of_bf f3) ( And.intro (of_bt f4) ( And.intro (of_bt f5) (trivial))))))
                                  go_wp2
                                  go_roundw
                                  case rel =>
                                    have hg := HG.out
                                    exact ⟨t + 1, _, by omega, by go_num, rfl, Lib.hid (by
                                      rw [HS.out]
                                      first
                                      | (rw [decide_eq_true (by omega)]; simp; done)
                                      | (rw [decide_eq_false (by omega)]; simp; done)), by trivial⟩
                                  case measure => (simp [intOf]; omega)
                                | false =>
                                  have HG := Lib.hid (And.intro (of_bt f1) ( And.intro (of_bt f2) ( And.intro (of_bf f3) ( And.intro (of_bt f4) ( And.intro (of_bf f5) (trivial))))))
                                  go_wp2
                                  go_roundw
                                  case rel =>
                                    have hg := HG.out
                                    exact ⟨t + 1, _, by omega, by go_num, rfl, Lib.hid (by
                                      rw [HS.out]
                                      first
                                      | (rw [decide_eq_true (by omega)]; simp; done)
                                      | (rw [decide_eq_false (by omega)]; simp; done)), by trivial⟩
                                  case measure => (simp [intOf]; omega)
                              | false =>
                                have HG := Lib.hid (And.intro (of_bt f1) ( And.intro (of_bt f2) ( And.intro (of_bf f3) ( And.intro (of_bf f4) (trivial)))))
                                go_wp2
                                go_roundw
                                case rel =>
                                  have hg := HG.out
                                  exact ⟨t + 1, _, by omega, by go_num, rfl, Lib.hid (by
                                    rw [HS.out]
                                    first
                                    | (rw [decide_eq_true (by omega)]; simp; done)
                                    | (rw [decide_eq_false (by omega)]; simp; done)), by trivial⟩
                                case measure => (simp [intOf]; omega)
                          | false =>
                            cases f4 : (sb == ct) with
                            | true =>
                              cases f5 : (sa == ca) with
                              | true =>
                                have HG := Lib.hid (And.intro (of_bt f1) ( And.intro (of_bf f2) ( And.intro (of_bt f4) ( And.intro (of_bt f5) (trivial)))))
                                go_wp2
                                go_roundw
                                case rel =>
                                  have hg := HG.out
                                  exact ⟨t + 1, _, by omega, by go_num, rfl, Lib.hid (by
                                    rw [HS.out]
                                    first
                                    | (rw [decide_eq_true (by omega)]; simp; done)
                                    | (rw [decide_eq_false (by omega)]; simp; done)), by trivial⟩
                                case measure => (simp [intOf]; omega)
                              | false =>
                                have HG := Lib.hid (And.intro (of_bt f1) ( And.intro (of_bf f2) ( And.intro (of_bt f4) ( And.intro (of_bf f5) (trivial)))))
                                go_wp2
                                go_roundw
                                case rel =>
                                  have hg := HG.out
                                  exact ⟨t + 1, _, by omega, by go_num, rfl, Lib.hid (by
                                    rw [HS.out]
                                    first
                                    | (rw [decide_eq_true (by omega)]; simp; done)
                                    | (rw [decide_eq_false (by omega)]; simp; done)), by trivial⟩
                                case measure => (simp [intOf]; omega)
                            | false =>
                              have HG := Lib.hid (And.intro (of_bt f1) ( And.intro (of_bf f2) ( And.intro (of_bf f4) (trivial))))
                              go_wp2
                              go_roundw
                              case rel =>
                                have hg := HG.out
                                exact ⟨t + 1, _, by omega, by go_num, rfl, Lib.hid (by
                                  rw [HS.out]
                                  first
                                  | (rw [decide_eq_true (by omega)]; simp; done)
                                  | (rw [decide_eq_false (by omega)]; simp; done)), by trivial⟩
                              case measure => (simp [intOf]; omega)
                        | false =>
                          have HG := Lib.hid (And.intro (of_bf f1) (trivial))
                          go_wp2
                          go_roundw
                          case rel =>
                            have hg := HG.out
                            exact ⟨t + 1, _, by omega, by go_num, rfl, Lib.hid (by
                              rw [HS.out]
                              first
                              | (rw [decide_eq_true (by omega)]; simp; done)
                              | (rw [decide_eq_false (by omega)]; simp; done)), by trivial⟩
                          case measure => (simp [intOf]; omega)
                      · obtain rfl : t = at_ := by omega
                        go_wp2
                        go_roundg (q - (j + 1))
                        case measure => exact Nat.lt_of_lt_of_le (Nat.sub_lt_sub_left hjq (Nat.lt_succ_self j)) hg1
                        case rel => exact ⟨j + 1, vv, Nat.le_refl _, by omega, by go_num, rfl, Lib.hid (by rw [HN.out, hvv.out]), by trivial⟩
                  · obtain rfl : j = q := by omega
                    go_wp2
                    go_meet
                    case rel => exact ⟨by rw [hvo.out, HOKK.out, hcv.out], rfl⟩
              · obtain rfl : k = at_ := by omega
                have hcvt : cv = true := by
                  have h1 := HNC.out
                  rw [hck.out] at h1
                  have h2 := hcv.out
                  rw [h1] at h2
                  exact h2.symm
                have HCV := Lib.hid hcvt
                clear hcvt
                go_wp2
                go_loopg [17, 18] 1 (fun _ t17 t18 wx => t17 = .bool true ∧ t18 = .int .i64 0 ∧ W1 = wx)
                case atStart => exact ⟨rfl, rfl, rfl⟩
                case round =>
                  obtain ⟨rfl, rfl, rfl⟩ := hrel
                  by_cases hq0 : 0 < q
                  · go_wp2
                    go_meet
                    case rel => exact ⟨by rw [HCV.out], rfl⟩
                  · go_wp2
                    go_meet
                    case rel => exact ⟨by rw [HCV.out], rfl⟩
            case rest =>
              obtain ⟨rfl, rfl⟩ := hcut
              cases hcv2 : cv with
              | false =>
                have hnx : (at_ < k + 1 → rbest Fc (enumTo (aTo ps same q) cl d pfx (k + 1)) ≠ none) ∧ OutR same cl E0 m L W1 o (rbest Fc (enumTo (aTo ps same q) cl d pfx (k + 1))) := by
                  have hat1 := hat.out
                  have hcl1 : clashB (aTo ps same q) cl (pfx ++ [nth cl k]) pfx.length = true := by rw [hat1, hck.out]; have := hcv.out; rw [hcv2] at this; simpa using this
                  rw [enumTo_clash hcl1]
                  refine ⟨fun h => hne.out ?_, hout.ext hx1⟩
                  rcases Nat.lt_or_eq_of_le hka with h' | h'
                  · omega
                  · exfalso
                    have h1 := HNC.out
                    have h2 := hcv.out
                    have h3 := hck.out
                    subst h'
                    rw [h3] at h1
                    rw [h1, hcv2] at h2
                    cases h2
                have HNX := Lib.hid hnx
                have hxf := Ext.trans hx hx1
                clear hnx hout hne hcut0
                go_wp2
                go_roundg (at_ + 1 - (k + 1))
                case measure => exact Nat.lt_of_lt_of_le (Nat.sub_lt_sub_left (Nat.lt_succ_of_le hka) (Nat.lt_succ_self k)) hgg
                case rel => exact ⟨k + 1, o, Nat.le_refl _, by omega, by go_num, rfl, HNX.out.1, HNX.out.2, hxf⟩
              | true =>
                have hgo : enumTo (aTo ps same q) cl d pfx (k + 1) = enumTo (aTo ps same q) cl d pfx k ++ enum (aTo ps same q) cl d (pfx ++ [ck]) := by
                  have hat1 := hat.out
                  rw [← hck.out]
                  refine enumTo_go (by rw [hat1]; exact HSK.out) ?_
                  rw [hat1, hck.out]; have := hcv.out; rw [hcv2] at this; simpa using this
                have HGO := Lib.hid hgo
                obtain ⟨cat, hcat⟩ : ∃ cat, Hid (nth cl at_ = cat) := ⟨_, rfl⟩
                have qat := hcc3 at_ (by omega)
                rw [hcat.out] at qat
                have HOUT := Lib.hid hout
                have HNE := hne
                clear hgo hout hne
                go_wp2
                go_loopw [23] (fun t wx => ∃ i : Nat, i ≤ m ∧ t = .int .i64 i ∧ wx.ownsRow wk.heap.size 3 1 (.slice (some ⟨gN, 0, none⟩) m cN) m (ints (setTo same cat ck E i)) ∧ W1.grownBy wx (some gN)) (fun t _ => m - (intOf t).toNat)
                case atStart => exact ⟨0, Nat.zero_le _, rfl, hown1, World.grownBy.refl _ _⟩
                case round =>
                  obtain ⟨i, hi, rfl, hrowi, hgi⟩ := hrel
                  have hxi : Ext wk wr := hx1.grown hgi hx1.size (fun k e => by cases e; omega)
                  by_cases hil : i < m
                  · have q1 := cell_ext hxi (hcc1 i hil)
                    have q2 := cell_ext hxi qat
                    by_cases hhi : nth same i = cat
                    · have hb := beq_t hhi
                      have hmm : (setTo same cat ck E i).set i ck = setTo same cat ck E (i + 1) := by rw [setTo, if_pos hhi]
                      have HMM := Lib.hid hmm
                      clear hmm hhi
                      go_wp2
                      go_quiet (fail)
                      obtain ⟨We, hWe⟩ : ∃ We, Hid (We = wr.drewN nq) := ⟨_, rfl⟩
                      have hxe : Ext wr We := by rw [hWe.out]; exact ext_drewN _ _
                      rw [← hWe.out]
                      have hrowe := own_ext hrowi hxe
                      obtain ⟨r1, r2⟩ := own_at hrowe i hil
                      obtain ⟨hst, hgs⟩ := own_store hrowe i ck
                      rw [HMM.out] at hst
                      have hgE : wr.grownBy We (some gN) := ⟨hxe.os, hxe.tape, hxe.output, hxe.size, fun k hk _ => hxe.block k hk⟩
                      have HF := Lib.hid (And.intro hst (hgi.trans (hgE.trans hgs)))
                      clear hst hgs hrowi hrowe hgi hgE
                      go_wp2
                      go_roundw
                      case rel => exact ⟨i + 1, by omega, by go_num, HF.out.1, HF.out.2⟩
                      case measure => (simp [intOf]; omega)
                    · have hb := beq_f hhi
                      have hmm : setTo same cat ck E i = setTo same cat ck E (i + 1) := by rw [setTo, if_neg hhi]
                      rw [hmm] at hrowi
                      have HI := Lib.hid (And.intro hrowi hgi)
                      clear hmm hhi hrowi hgi
                      go_wp2
                      go_quiet (fail)
                      obtain ⟨We, hWe⟩ : ∃ We, Hid (We = wr.drewN nq) := ⟨_, rfl⟩
                      have hxe : Ext wr We := by rw [hWe.out]; exact ext_drewN _ _
                      rw [← hWe.out]
                      have hgE : wr.grownBy We (some gN) := ⟨hxe.os, hxe.tape, hxe.output, hxe.size, fun k hk _ => hxe.block k hk⟩
                      have HF := Lib.hid (And.intro (own_ext HI.out.1 hxe) (HI.out.2.trans hgE))
                      clear hgE
                      go_wp2
                      go_roundw
                      case rel => exact ⟨i + 1, by omega, by go_num, HF.out.1, HF.out.2⟩
                      case measure => (simp [intOf]; omega)
                  · obtain rfl : i = m := by omega
                    have hxw := Ext.trans hx hxi
                    have hpl' : (pfx ++ [ck]).length = at_ + 1 := by have := hat.out; simp only [List.length_append, List.length_cons, List.length_nil]; omega
                    have hent : setTo same cat ck E i = entN same cl E0 (pfx ++ [ck]) i (pfx ++ [ck]).length := by
                      have hat1 := hat.out
                      have hcat1 := hcat.out
                      have hE1 := hE.out
                      subst hat1
                      rw [hpl', entN, hcat1, nth_append_last, entN_congr (hs' := pfx) pfx.length (fun i hi => nth_append_left hi), hE1]
                    have hrdN := own_rints hrowi (by omega)
                    rw [hent] at hrdN
                    have hih := ih (pfx ++ [ck]) (by have := HPD.out; have := hat.out; omega) (by have := hpf.next (k := k) (by have := hat.out; omega); rw [hck.out] at this; exact this) (some ⟨gN, 0, none⟩) cN wr (h.ext hxw) (h1.ext hxw) (h2.ext hxw) (h3.ext hxw) hrdN
                    have hcast : (((pfx ++ [ck]).length : Nat) : Int) = (at_ : Int) + 1 := by rw [hpl']; rfl
                    rw [hcast] at hih
                    have hfc : ∀ b, costTo es (entN same cl E0 b i L) n = Fc b := fun b => by rw [← hFc.out]
                    have HFC := Lib.hid hfc
                    clear hent hpl' hrdN hrowi hgi hcast hfc
                    have hAP : ∀ A' c' b w2, RInts w2 A' i (entN same cl E0 b i L) → Ext w w2 → ∀ W, Ext w2 W → Calls Try.prog 16 #[.slice A n c, .slice A' i c'] W fun e W' => e = .returned (.int .i64 (Fc b)) ∧ Ext W W' := fun A' c' b w2 hr hxx W hW => by
                      have := refCost_any A n c es A' i c' (entN same cl E0 b i L) W (h.ext (Ext.trans hxx hW)) (hr.ext hW)
                      rw [HFC.out] at this
                      exact this
                    have HAP := Lib.hid hAP
                    clear hAP
                    cases hr : rbest Fc (enumTo (aTo ps same q) cl d pfx k) with
                    | none =>
                      have ho := HOUT.out
                      rw [hr] at ho
                      obtain rfl : o = .slice none 0 0 := ho
                      go_wp2_with (go_at_call 41; refine hih.mono ?_; rintro e w2 ⟨A9, c9, b', rfl, hb', hR', hx2⟩)
                      have hnx : (at_ < k + 1 → rbest Fc (enumTo (aTo ps same q) cl d pfx (k + 1)) ≠ none) ∧ OutR same cl E0 i L w2 (.slice A9 i c9) (rbest Fc (enumTo (aTo ps same q) cl d pfx (k + 1))) := by
                        rw [HGO.out, rbest_app, hr, hb']
                        exact ⟨fun _ e => (by cases e), A9, c9, rfl, hR'⟩
                      have HNX := Lib.hid hnx
                      have hxf := Ext.trans hxw hx2
                      clear hnx
                      go_roundg (at_ + 1 - (k + 1))
                      case measure => exact Nat.lt_of_lt_of_le (Nat.sub_lt_sub_left (Nat.lt_succ_of_le hka) (Nat.lt_succ_self k)) hgg
                      case rel => exact ⟨k + 1, .slice A9 i c9, Nat.le_refl _, by omega, by go_num, rfl, HNX.out.1, HNX.out.2, hxf⟩
                    | some b =>
                      have ho := HOUT.out
                      rw [hr] at ho
                      obtain ⟨A8, c8, rfl, hR8⟩ := ho
                      obtain ⟨b8, o8, rfl, _⟩ := hR8.cell hm0
                      have HR := Lib.hid hr
                      clear hr
                      have hbest : ∀ b', rbest Fc (enum (aTo ps same q) cl d (pfx ++ [ck])) = some b' → (Fc b' < Fc b → rbest Fc (enumTo (aTo ps same q) cl d pfx (k + 1)) = some b') ∧ (Fc b ≤ Fc b' → rbest Fc (enumTo (aTo ps same q) cl d pfx (k + 1)) = some b) ∧ lessB (entN same cl E0 b' i L) (entN same cl E0 b i L) = false := fun b' hb' => by
                        rw [HGO.out, rbest_app, HR.out, hb']
                        refine ⟨fun h => by simp only [rmerge, if_pos h], fun h => by simp only [rmerge, if_neg (Int.not_lt.2 h)], ?_⟩
                        have hat1 := hat.out
                        have hm1 := enum_pfx (rbest_mem Fc _ _ rfl hb')
                        obtain ⟨k', hk', hm2⟩ := mem_enumTo (rbest_mem Fc _ _ rfl HR.out)
                        have hm2 := enum_pfx hm2
                        have hcl1 := HCL.out
                        have := entN_less (E0 := E0) (x := b') (y := b) hv HSL.out HEL.out K (a := pfx.length) (by omega) (fun t ht => by rw [hm1.1 t ht, hm2.1 t ht]) (by
                          rw [hm1.2.1, hm2.2.1, ← hck.out]
                          exact (lt_of_nth K.inc (by omega) (by omega)).2 hk')
                        rw [hcl1] at this
                        exact this
                      have HB := Lib.hid hbest
                      clear hbest
                      go_upto_region 29 with (go_at_call 41; refine hih.mono ?_; rintro e w2 ⟨A9, c9, b', rfl, hb', hR', hx2⟩)
                      have hcx := HAP.out A9 c9 b' w2 hR' (Ext.trans hxw hx2)
                      have hcb := HAP.out (some ⟨b8, o8, none⟩) c8 b w2 (hR8.ext (Ext.trans hxi hx2)) (Ext.trans hxw hx2)
                      have hls := fun W (hW : Ext w2 W) => less_any A9 i c9 (entN same cl E0 b' i L) (some ⟨b8, o8, none⟩) c8 (entN same cl E0 b i L) W (hR'.ext hW) (hR8.ext (Ext.trans (Ext.trans hxi hx2) hW))
                      have hbb := HB.out b' hb'
                      simp only [hbb.2.2] at hls
                      obtain ⟨fx, hfx⟩ : ∃ fx, Hid (Fc b' = fx) := ⟨_, rfl⟩
                      obtain ⟨fb, hfb⟩ : ∃ fb, Hid (Fc b = fb) := ⟨_, rfl⟩
                      rw [hfx.out] at hcx hbb
                      rw [hfb.out] at hcb hbb
                      have HBB := Lib.hid hbb
                      have hacc : Ext w2 w2 := ⟨rfl, rfl, rfl, Nat.le_refl _, fun _ _ => rfl⟩
                      have hxf := Ext.trans hxw hx2
                      have HR9 := Lib.hid hR'
                      have HR8 := Lib.hid (hR8.ext (Ext.trans hxi hx2))
                      clear hbb hb' hih hR8 hR'
                      have tk1 := True.intro
                      have tk2 := True.intro
                      have tk3 := True.intro
                      have tk4 := True.intro
                      by_cases h1 : fx < fb
                      · have hd1 : decide (fx < fb) = true := decide_eq_true h1
                        have hnx : (at_ < k + 1 → rbest Fc (enumTo (aTo ps same q) cl d pfx (k + 1)) ≠ none) ∧ OutR same cl E0 i L w2 (.slice A9 i c9) (rbest Fc (enumTo (aTo ps same q) cl d pfx (k + 1))) := by
                          rw [HBB.out.1 h1]
                          exact ⟨fun _ e => (by cases e), A9, c9, rfl, HR9.out⟩
                        have HNX := Lib.hid hnx
                        clear hnx h1
                        go_wp2_with (first | (go_at_call 16; clear tk1; refine (hcx _ hacc).mono ?_; rintro e W' ⟨rfl, hy⟩; replace hacc := Ext.trans hacc hy; clear hy) | (go_at_call 16; clear tk2; refine (hcb _ hacc).mono ?_; rintro e W' ⟨rfl, hy⟩; replace hacc := Ext.trans hacc hy; clear hy) | (go_at_call 16; clear tk3; refine (hcx _ hacc).mono ?_; rintro e W' ⟨rfl, hy⟩; replace hacc := Ext.trans hacc hy; clear hy) | (go_at_call 16; clear tk4; refine (hcb _ hacc).mono ?_; rintro e W' ⟨rfl, hy⟩; replace hacc := Ext.trans hacc hy; clear hy) | (go_at_call 42; refine (hls _ hacc).mono ?_; rintro e W' ⟨rfl, hy⟩; replace hacc := Ext.trans hacc hy; clear hy))
                        have HNX := Lib.hid (And.intro HNX.out.1 (HNX.out.2.ext hacc))
                        have hxf := Ext.trans hxf hacc
                        go_roundg (at_ + 1 - (k + 1))
                        case measure => exact Nat.lt_of_lt_of_le (Nat.sub_lt_sub_left (Nat.lt_succ_of_le hka) (Nat.lt_succ_self k)) hgg
                        case rel => exact ⟨k + 1, .slice A9 i c9, Nat.le_refl _, by omega, by go_num, rfl, HNX.out.1, HNX.out.2, hxf⟩
                      · have hd1 : decide (fx < fb) = false := decide_eq_false h1
                        have hnx : (at_ < k + 1 → rbest Fc (enumTo (aTo ps same q) cl d pfx (k + 1)) ≠ none) ∧ OutR same cl E0 i L w2 (.slice (some ⟨b8, o8, none⟩) i c8) (rbest Fc (enumTo (aTo ps same q) cl d pfx (k + 1))) := by
                          rw [HBB.out.2.1 (Int.not_lt.1 h1)]
                          exact ⟨fun _ e => (by cases e), _, c8, rfl, HR8.out⟩
                        have HNX := Lib.hid hnx
                        clear hnx h1
                        by_cases h2 : fx = fb
                        · have hd2' := beq_t h2
                          clear h2
                          go_wp2_with (first | (go_at_call 16; clear tk1; refine (hcx _ hacc).mono ?_; rintro e W' ⟨rfl, hy⟩; replace hacc := Ext.trans hacc hy; clear hy) | (go_at_call 16; clear tk2; refine (hcb _ hacc).mono ?_; rintro e W' ⟨rfl, hy⟩; replace hacc := Ext.trans hacc hy; clear hy) | (go_at_call 16; clear tk3; refine (hcx _ hacc).mono ?_; rintro e W' ⟨rfl, hy⟩; replace hacc := Ext.trans hacc hy; clear hy) | (go_at_call 16; clear tk4; refine (hcb _ hacc).mono ?_; rintro e W' ⟨rfl, hy⟩; replace hacc := Ext.trans hacc hy; clear hy) | (go_at_call 42; refine (hls _ hacc).mono ?_; rintro e W' ⟨rfl, hy⟩; replace hacc := Ext.trans hacc hy; clear hy))
                          have HNX := Lib.hid (And.intro HNX.out.1 (HNX.out.2.ext hacc))
                          have hxf := Ext.trans hxf hacc
                          go_roundg (at_ + 1 - (k + 1))
                          case measure => exact Nat.lt_of_lt_of_le (Nat.sub_lt_sub_left (Nat.lt_succ_of_le hka) (Nat.lt_succ_self k)) hgg
                          case rel => exact ⟨k + 1, .slice (some ⟨b8, o8, none⟩) i c8, Nat.le_refl _, by omega, by go_num, rfl, HNX.out.1, HNX.out.2, hxf⟩
                        · have hd2' := beq_f h2
                          clear h2
                          go_wp2_with (first | (go_at_call 16; clear tk1; refine (hcx _ hacc).mono ?_; rintro e W' ⟨rfl, hy⟩; replace hacc := Ext.trans hacc hy; clear hy) | (go_at_call 16; clear tk2; refine (hcb _ hacc).mono ?_; rintro e W' ⟨rfl, hy⟩; replace hacc := Ext.trans hacc hy; clear hy) | (go_at_call 16; clear tk3; refine (hcx _ hacc).mono ?_; rintro e W' ⟨rfl, hy⟩; replace hacc := Ext.trans hacc hy; clear hy) | (go_at_call 16; clear tk4; refine (hcb _ hacc).mono ?_; rintro e W' ⟨rfl, hy⟩; replace hacc := Ext.trans hacc hy; clear hy) | (go_at_call 42; refine (hls _ hacc).mono ?_; rintro e W' ⟨rfl, hy⟩; replace hacc := Ext.trans hacc hy; clear hy))
                          have HNX := Lib.hid (And.intro HNX.out.1 (HNX.out.2.ext hacc))
                          have hxf := Ext.trans hxf hacc
                          go_roundg (at_ + 1 - (k + 1))
                          case measure => exact Nat.lt_of_lt_of_le (Nat.sub_lt_sub_left (Nat.lt_succ_of_le hka) (Nat.lt_succ_self k)) hgg
                          case rel => exact ⟨k + 1, .slice (some ⟨b8, o8, none⟩) i c8, Nat.le_refl _, by omega, by go_num, rfl, HNX.out.1, HNX.out.2, hxf⟩
      · obtain rfl : k = at_ + 1 := by omega
        have hd : decide (((at_ + 1 : Nat) : Int) ≤ at_) = false := decide_eq_false (by omega)
        have hn := hne.out (Nat.lt_succ_self _)
        cases hr : rbest Fc (enumTo (aTo ps same q) cl d pfx (at_ + 1)) with
        | none => exact absurd hr hn
        | some b =>
          rw [hr] at hout
          obtain ⟨A8, c8, rfl, hR8⟩ := hout
          have hfin : rbest Fc (enum (aTo ps same q) cl (d + 1) pfx) = some b := by rw [enumTo_end, hat.out]; exact hr
          have HF := Lib.hid hfin
          clear hn hr hfin hne
          go_wp2
          go_ret
          exact ⟨A8, c8, b, rfl, HF.out, hR8, hx⟩

end Go.Proofs.Ytiapdpbcnbgdmaa

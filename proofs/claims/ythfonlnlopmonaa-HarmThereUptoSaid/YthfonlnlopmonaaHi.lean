/- Layer 13: what the joints' functions answer: words, first, joints, begins, held. -/
import Derived.Test.YthfonlnlopmonaaHh
import Derived.Test.YthfonlnlopmonaaRow
import Derived.StillTailTactics
set_option linter.unusedVariables false
set_option linter.unusedSimpArgs false
namespace Go.Proofs.Ythfonlnlopmonaa
open Go.RowKit

/-- of neighbours that are equal the first alone, up to place j -/
def compTo (xs : List Pr) : Nat → List Pr
  | 0 => []
  | j + 1 => if h : j < xs.length then (if 0 < j ∧ xs[j]? = xs[j - 1]? then compTo xs j else compTo xs j ++ [xs[j]]) else compTo xs j
theorem compTo_len (xs : List Pr) : ∀ j, (compTo xs j).length ≤ j
  | 0 => by simp [compTo]
  | j + 1 => by
    have ih := compTo_len xs j
    unfold compTo
    split
    · split
      · omega
      · simp; omega
    · omega
theorem compTo_mem (xs : List Pr) : ∀ j i (h : i < xs.length), i < j → xs[i] ∈ compTo xs j
  | 0, i, _, hj => absurd hj (by omega)
  | j + 1, i, h, hj => by
    unfold compTo
    by_cases e : i = j
    · subst e
      rw [dif_pos h]
      split
      · rename_i h2
        have h3 := compTo_mem xs i (i - 1) (by omega) (by omega)
        rw [List.getElem?_eq_getElem h, List.getElem?_eq_getElem (show i - 1 < xs.length by omega)] at h2
        rw [Option.some.inj h2.2]
        exact h3
      · simp
    · have ih := compTo_mem xs j i h (by omega)
      split
      · split
        · exact ih
        · exact List.mem_append_left _ ih
      · exact ih
theorem compTo_eq (xs : List Pr) (j : Nat) (h : j < xs.length) (h0 : 0 < j) (he : xs[j] = xs[j - 1]) : compTo xs (j + 1) = compTo xs j := by
  rw [compTo, dif_pos h, if_pos ⟨h0, by rw [List.getElem?_eq_getElem h, List.getElem?_eq_getElem (show j - 1 < xs.length by omega), he]⟩]
theorem compTo_ne (xs : List Pr) (j : Nat) (h : j < xs.length) (he : ∀ h0 : 0 < j, ¬ xs[j] = xs[j - 1]) : compTo xs (j + 1) = compTo xs j ++ [xs[j]] := by
  rw [compTo, dif_pos h, if_neg]
  rintro ⟨h0, h1⟩
  rw [List.getElem?_eq_getElem h, List.getElem?_eq_getElem (show j - 1 < xs.length by omega)] at h1
  exact he h0 (Option.some.inj h1)
theorem info_P1 : ∀ u ∈ (Value.agg #[.slice none 0 0, .slice none 0 0]).cells.toList, u.oneCell' = true := by simp [Value.cells, Value.oneCell']
/-- two cells that are a pair -/
theorem kP_two {M : Nat → Prop} {w : World} {x : Pr} {cs : List Value} (h : kP.K M w x cs) : ∃ A0 c0 A1 c1, cs = [.slice A0 x.1.length c0, .slice A1 x.2.length c1] := by
  obtain ⟨A0, c0, A1, c1, e, _⟩ := kP_open h
  exact ⟨A0, c0, A1, c1, e⟩
set_option maxRecDepth 100000 in
set_option maxHeartbeats 8000000 in
theorem compact_calls (bo B : Nat) (M : Nat → Prop) (w : World) (v : Value) (xs : List Pr) (hO : kP.Own 34 M w B v xs) (hbo : w.cell? ⟨bo, 0, none⟩ = some (.func (.func 21) #[] #[])) (hbg : ∀ g, v.ownBlock = some g → ¬ bo = g) :
    Calls Try.prog 24 #[v, .func (.func 25) #[] #[.pointer (some ⟨bo, 0, none⟩)]] w fun e w' => Sh (∃ v', e = .returned v' ∧ kP.Own 34 M w' B v' (compTo xs xs.length) ∧ Keep (fun k => v.ownBlock = some k) w w') := by
  by_cases hn : xs.length < 2
  · have hc : compTo xs xs.length = xs := by
      match xs, hn with
      | [], _ => rfl
      | [x], _ => rfl
    obtain ⟨A, c, rfl, hl, hC⟩ := hO.isSl
    have HO := Sh.mk hO
    clear hO hC
    go_enter Try.func24, Try.ntmps24
    go_wp2_with fail
    go_ret
    exact ⟨_, rfl, by rw [hc]; exact HO.out, Keep.refl _ _⟩
  · obtain ⟨g, cap, rfl, hcap, hgs, hBg⟩ := hO.form (by omega)
    have hbg' : ¬ bo = g := hbg g rfl
    have HO := Sh.mk hO
    have hlen := hO.2.1
    clear hO hbg
    obtain ⟨n, hN⟩ : ∃ n, n = xs.length := ⟨_, rfl⟩
    have HN := Sh.mk hN
    rw [← hN] at hcap hlen hn HO
    have hnn : 2 ≤ n := by omega
    clear hN hn
    go_enter Try.func24, Try.ntmps24
    rw [show xs.length = n from HN.out.symm]
    go_wp2_with fail
    go_loopw [5] (fun v5 wr => ∃ k : Nat, 1 ≤ k ∧ k ≤ n ∧ v5 = .int .i64 k ∧ Sh (compTo xs k = xs.take k) ∧ Sh (Ext w wr)) (fun v5 _ => n - (intOf v5).toNat)
    case atStart => exact ⟨1, by omega, by omega, rfl, ⟨by match xs, HN.out with | x :: xs, _ => rfl | [], h => simp at h; omega⟩, ⟨Ext.refl _⟩⟩
    case round =>
      obtain ⟨k, hk1, hk, rfl, H, HX⟩ := hrel
      by_cases hlt : k < n
      · have hi : k < xs.length := by have := HN.out; omega
        have hi1 : k - 1 < xs.length := by omega
        obtain ⟨cs, hK, hcs⟩ := (HO.out.ext HX.out).at k hi
        obtain ⟨ds, hL, hds⟩ := (HO.out.ext HX.out).at (k - 1) hi1
        obtain ⟨A0, c0, A1, c1, rfl⟩ := kP_two hK
        obtain ⟨D0, d0, D1, d1, rfl⟩ := kP_two hL
        have hc0 : wr.cell? ⟨g, k * 2, none⟩ = _ := (hcs 0 _ rfl).1
        have hc1 : wr.cell? ⟨g, k * 2 + 1, none⟩ = _ := (hcs 1 _ rfl).1
        have hd0 : wr.cell? ⟨g, (k - 1) * 2, none⟩ = _ := (hds 0 _ rfl).1
        have hd1 : wr.cell? ⟨g, (k - 1) * 2 + 1, none⟩ = _ := (hds 1 _ rfl).1
        have HE := Sh.mk (fun W (hW : Ext wr W) => order0_calls bo xs[k] xs[k - 1] _ W _ _ ((HX.out.trans hW).cell hbo) (Kd.Agg.ext ⟨_, hK, rfl⟩ hW) (Kd.Agg.ext ⟨_, hL, rfl⟩ hW))
        clear hcs hds hK hL
        have hw1 : IntKind.i64.wrap ((k : Int) - 1) = ((k - 1 : Nat) : Int) := by rw [IntKind.wrap_i64]; omega
        have hw2 : ((k - 1 : Nat) : Int) < (n : Int) := by omega
        go_wp2_with fail
        go_still_tail 10, (by kernel_rfl)
        change wpList _ _ _ _ _ wr.drew
        go_wp2_with (with_reducible refine (HE.out _ (Ext.drew (Ext.refl _))).mono ?_); rintro e w1 ⟨rfl, hE1⟩
        have HX1 := Sh.mk ((HX.out.drew).trans hE1)
        clear hE1
        by_cases he : xs[k] = xs[k - 1]
        · rw [decide_eq_true he]
          have hcn : ¬ cap = k := by omega
          have hcn' : ¬ (cap : Int) = (k : Int) := by omega
          have hkc : (k : Int) ≤ (cap : Int) := by omega
          have hkn : (k : Int) ≤ (n : Int) := by omega
          have HC0 := Sh.mk (show compTo xs (k + 1) = xs.take k by rw [compTo_eq xs k hi (by omega) he]; exact H.out)
          clear hc0 hc1 hd0 hd1 HE hw1 hw2 he
          go_wp2_with fail
          go_loopw [5, 7] (fun v5 v7 W => ∃ m q : Nat, v5 = .int .i64 m ∧ v7 = .int .i64 q ∧ 1 ≤ q ∧ q ≤ n - k ∧ m ≤ k + q - 1 ∧ Sh (∃ ys : List Pr, kP.Own 34 M W B (.slice (some ⟨g, 0, none⟩) n cap) ys ∧ ys.length = n ∧ (compTo xs (k + q)).length = m ∧ ys.take m = compTo xs (k + q) ∧ ys.drop (k + q - 1) = xs.drop (k + q - 1) ∧ Keep (fun k => k = g) w W)) (fun _ v7 _ => n - (intOf v7).toNat)
          case atStart => exact ⟨k, 1, rfl, rfl, Nat.le_refl _, by omega, by omega, ⟨xs, HO.out.ext HX1.out, HN.out.symm, by rw [HC0.out]; simp; omega, by rw [HC0.out], rfl, HX1.out.keep _⟩⟩
          case round =>
            obtain ⟨m, q, rfl, rfl, hq1, hqn, hm, HI⟩ := hrel
            obtain ⟨ys, hI⟩ := HI.out
            have HI := Sh.mk hI
            clear hI
            by_cases hq : q < n - k
            · obtain ⟨hOy, hly, hlm, htk, hdr, hkp⟩ := HI.out
              have hj : k + q < ys.length := by omega
              have hj1 : k + q - 1 < ys.length := by omega
              obtain ⟨cs, hK, hcs⟩ := hOy.at (k + q) hj
              obtain ⟨ds, hL, hds⟩ := hOy.at (k + q - 1) hj1
              obtain ⟨E0, e0, E1, e1, rfl⟩ := kP_two hK
              obtain ⟨F0, f0, F1, f1, rfl⟩ := kP_two hL
              have ha : (k + q) * kP.sz = k * 2 + q * 2 := by show (k + q) * 2 = _; omega
              have hb : (k + q - 1) * kP.sz = k * 2 + (q - 1) * 2 := by show (k + q - 1) * 2 = _; omega
              rw [ha] at hcs
              rw [hb] at hds
              have hc0 : wr.cell? ⟨g, k * 2 + q * 2, none⟩ = _ := (hcs 0 _ rfl).1
              have hc1 : wr.cell? ⟨g, k * 2 + q * 2 + 1, none⟩ = _ := (hcs 1 _ rfl).1
              have hd0 : wr.cell? ⟨g, k * 2 + (q - 1) * 2, none⟩ = _ := (hds 0 _ rfl).1
              have hd1 : wr.cell? ⟨g, k * 2 + (q - 1) * 2 + 1, none⟩ = _ := (hds 1 _ rfl).1
              have hbo' := hkp.cell (p := ⟨bo, 0, none⟩) hbg' hbo
              have hx0 : ys[k + q] = xs[k + q]'(by have := HN.out; omega) := by
                have := congrArg (fun l => l[1]?) hdr
                simp only [List.getElem?_drop] at this
                rw [show k + q - 1 + 1 = k + q by omega, List.getElem?_eq_getElem hj, List.getElem?_eq_getElem (by have := HN.out; omega)] at this
                exact Option.some.inj this
              have hx1 : ys[k + q - 1] = xs[k + q - 1]'(by have := HN.out; omega) := by
                have := congrArg (fun l => l[0]?) hdr
                simp only [List.getElem?_drop] at this
                rw [show k + q - 1 + 0 = k + q - 1 by omega, List.getElem?_eq_getElem hj1, List.getElem?_eq_getElem (by have := HN.out; omega)] at this
                exact Option.some.inj this
              have HE := Sh.mk (fun W (hW : Ext wr W) => order0_calls bo ys[k + q] ys[k + q - 1] _ W _ _ (hW.cell hbo') (Kd.Agg.ext ⟨_, hK, rfl⟩ hW) (Kd.Agg.ext ⟨_, hL, rfl⟩ hW))
              have HK := Sh.mk hK
              have HXX := Sh.mk (And.intro hx0 hx1)
              have hdr1 : ys.drop (k + q) = xs.drop (k + q) := by
                have := congrArg (List.drop 1) hdr
                simp only [List.drop_drop] at this
                rwa [show k + q - 1 + 1 = k + q by omega] at this
              have HD := Sh.mk hdr1
              clear hcs hds hK hL hOy hlm htk hdr hkp hx0 hx1 hdr1 ha hb
              have hw1 : IntKind.i64.wrap ((q : Int) - 1) = ((q - 1 : Nat) : Int) := by rw [IntKind.wrap_i64]; omega
              have hw2 : ((q - 1 : Nat) : Int) < ((n - k : Nat) : Int) := by omega
              have hqi : (q : Int) < ((n - k : Nat) : Int) := by omega
              have hmn : (m : Int) < (n : Int) := by omega
              have hmn' : m < n := by omega
              have hq1' : q - 1 < n - k := by omega
              go_wp2_with fail
              go_still_tail 10, (by kernel_rfl)
              change wpList _ _ _ _ _ wr.drew
              go_wp2_with (with_reducible refine (HE.out _ (Ext.drew (Ext.refl _))).mono ?_); rintro e w2 ⟨rfl, hE2⟩
              have HX2 := Sh.mk ((Ext.drew (Ext.refl wr)).trans hE2)
              clear hE2
              by_cases he : ys[k + q] = ys[k + q - 1]
              · rw [decide_eq_true he]
                have HC1 := Sh.mk (show compTo xs (k + q + 1) = compTo xs (k + q) from compTo_eq xs (k + q) _ (by omega) (by rw [← HXX.out.1, ← HXX.out.2]; exact he))
                go_wp2_with fail
                go_roundw
                case measure => simp [intOf]; omega
                case rel => exact ⟨m, q + 1, by go_num, by go_num, by omega, by omega, by omega, ⟨ys, HI.out.1.ext HX2.out, HI.out.2.1, by rw [← Nat.add_assoc, HC1.out]; exact HI.out.2.2.1, by rw [← Nat.add_assoc, HC1.out]; exact HI.out.2.2.2.1, HD.out, HI.out.2.2.2.2.2.trans HX2.out (fun _ _ x => x.elim)⟩⟩
              · rw [decide_eq_false he]
                have HC1 := Sh.mk (show compTo xs (k + q + 1) = compTo xs (k + q) ++ [ys[k + q]] from by rw [compTo_ne xs (k + q) (by have := HN.out; omega) (fun _ => by rw [← HXX.out.1, ← HXX.out.2]; exact he), HXX.out.1])
                have h0 := HX2.out.cell hc0
                have h1 := HX2.out.cell hc1
                obtain ⟨gs, hG, hgs'⟩ := (HI.out.1.ext HX2.out).at m (by omega)
                obtain ⟨G0, g0, G1, g1, rfl⟩ := kP_two hG
                have hg0 : w2.cell? ⟨g, m * 2, none⟩ = _ := (hgs' 0 _ rfl).1
                have hg1 : w2.cell? ⟨g, m * 2 + 1, none⟩ = _ := (hgs' 1 _ rfl).1
                have hf0 : w2.frozen? ⟨g, m * 2, none⟩ = _ := (hgs' 0 _ rfl).2
                have hf1 : w2.frozen? ⟨g, m * 2 + 1, none⟩ = _ := (hgs' 1 _ rfl).2
                clear hgs' hG hc0 hc1 hd0 hd1 HE hw1 hw2
                go_wp2_with fail
                go_roundw
                case measure => simp [intOf]; omega
                case rel =>
                  have hO2 := Kd.Own.set2 rfl (HI.out.1.ext HX2.out) m (by omega) (kP.keep HK.out HX2.out (fun _ _ x => x.elim))
                  refine ⟨m + 1, q + 1, by go_num, by go_num, by omega, by omega, by omega, ⟨_, hO2, by rw [List.length_set]; exact HI.out.2.1, by rw [← Nat.add_assoc, HC1.out, List.length_append, HI.out.2.2.1]; rfl, ?_, ?_, ?_⟩⟩
                  · rw [← Nat.add_assoc, HC1.out, ← HI.out.2.2.2.1, List.take_succ_eq_append_getElem (by rw [List.length_set]; omega), List.getElem_set_self, List.take_set_of_le (Nat.le_refl _)]
                  · rw [show k + (q + 1) - 1 = k + q by omega, List.drop_set, if_pos (by omega)]
                    exact HD.out
                  · exact Keep.setCell (Keep.setCell (HI.out.2.2.2.2.2.trans HX2.out (fun _ _ x => x.elim)) _ _ (.inl rfl)) _ _ (.inl rfl)
            · have hqe : q = n - k := by omega
              subst hqe
              have hcm : ¬ cap = m := by omega
              have hcm' : ¬ (cap : Int) = (m : Int) := by omega
              have hmc : (m : Int) ≤ (cap : Int) := by omega
              have hmn : (m : Int) ≤ (n : Int) := by omega
              go_wp2_with ((with_reducible refine at_clear_op ?_); refine wp_clear_tail kP 34 M B rfl _ 30 (.agg #[.slice none 0 0, .slice none 0 0]) 48 rfl rfl Try.underlying30 info_P rfl info_P1 g n cap ys HI.out.1 m (n - m) (cap - m) (by have := HI.out.2.1; omega) rfl ?_; intro w3 hO3 hk3; have HO3 := Sh.mk (And.intro hO3 hk3); clear hO3 hk3)
              go_ret
              have hkn' : k + (n - k) = xs.length := by have := HN.out; omega
              exact ⟨_, rfl, by rw [HN.out, ← hkn', ← HI.out.2.2.2.1]; exact HO3.out.1, HI.out.2.2.2.2.2.trans HO3.out.2 (fun _ _ x => x) |>.mono (fun i _ h => by subst h; rfl)⟩
        · rw [decide_eq_false he]
          have HC0 := Sh.mk (show compTo xs (k + 1) = xs.take (k + 1) by rw [compTo_ne xs k hi (fun _ => he), H.out, List.take_succ_eq_append_getElem hi])
          go_wp2_with fail
          go_roundw
          case measure => simp [intOf]; omega
          case rel => exact ⟨k + 1, by omega, by omega, by go_num, HC0, HX1⟩
      · go_wp2_with fail
        go_ret
        exact ⟨_, rfl, by rw [show n = k by omega, H.out, show k = xs.length by have := HN.out; omega, List.take_length]; have := HO.out.ext HX.out; rwa [HN.out] at this, HX.out.keep _⟩
end Go.Proofs.Ythfonlnlopmonaa

/- Layer 13: the walk of the law HarmThere. -/
import Derived.Test.YthfonlnlopmonaaHf
import Derived.Test.YthfonlnlopmonaaHp
import Derived.Test.YthfonlnlopmonaaHl
import Derived.Test.YthfonlnlopmonaaHn
set_option linter.unusedVariables false
set_option linter.unusedSimpArgs false
namespace Go.Proofs.Ythfonlnlopmonaa
open Go.RowKit

theorem at_P {M : Nat → Prop} {w : World} {A : Option Addr} {xs : List Pr} (h : kP.C M w A xs) (i : Nat) (hi : i < xs.length) : ∃ ad A0 c0 A1 c1, A = some ad ∧ w.cell? (ad.add (i * 2)) = some (.slice A0 xs[i].1.length c0) ∧ w.cell? ⟨(ad.add (i * 2)).block, (ad.add (i * 2)).off + 1, none⟩ = some (.slice A1 xs[i].2.length c1) ∧ Kd.str.C M w A0 xs[i].1 ∧ Kd.str.C M w A1 xs[i].2 := by
  obtain ⟨ad, cs, rfl, _, hK, hcs⟩ := h.at i hi
  obtain ⟨A0, c0, A1, c1, rfl, ⟨l0, g0⟩, ⟨l1, g1⟩⟩ := kP_open hK
  have h0 := hcs 0 _ rfl
  have h1 := hcs 1 _ rfl
  have e1 : ad.add (i * kP.sz + 1) = ⟨(ad.add (i * 2)).block, (ad.add (i * 2)).off + 1, none⟩ := add_field ad (i * 2) 1 (by decide)
  rw [e1] at h1
  exact ⟨ad, A0, c0, A1, c1, rfl, h0, h1, g0, g1⟩
set_option maxRecDepth 100000 in
set_option maxHeartbeats 4000000 in
theorem harmthere_calls (A Aa Ab : Option Addr) (c ca cb : Nat) (l : List Joint) (a b : List ByteArray) (w : World) (hl : kJoint.C none' w A l) (hca : a.length ≤ ca) (ha : Kd.str.C none' w Aa a) (hcb : b.length ≤ cb) (hb : Kd.str.C none' w Ab b) (hj : (joinedL l a b).length * 16 ≤ 140737488355328) :
    Calls Try.prog 3 #[.slice A l.length c, .slice Aa a.length ca, .slice Ab b.length cb] w fun e w' => e = .returned (.bool true) ∧ Ext w w' := by
  have HLJ := Sh.mk (lawjoints_calls A c l w hl)
  have HBy := Sh.mk (fun (W : World) (h : Ext w W) (b1 : Nat) (hh : W.heap[b1]? = some (.cells #[.slice Aa a.length ca, .slice Ab b.length cb] 23 (0, 0))) =>
    (show Calls Try.prog 5 #[.slice (some ⟨b1, 0, none⟩) 2 2] W _ from bytes_calls (some ⟨b1, 0, none⟩) 2 [a, b] none' W
      (Kd.C_block hh (fun x => x) (by simp) (.cons (Kd.sl_K hca (ha.ext h)) (.cons (Kd.sl_K hcb (hb.ext h)) (.nil ..))))))
  have HSa := Sh.mk (fun (W : World) (h : Ext w W) => sandhi_calls A c l Aa Ab ca cb a b none' W (fun k hk => hk.elim) (hl.ext h) hca (ha.ext h) hcb (hb.ext h) hj)
  have HUn := Sh.mk (fun (W : World) (h : Ext w W) (Ar : Option Addr) (cr : Nat) (r : List ByteArray) (hcr : r.length ≤ cr) (hr : Kd.str.C none' W Ar r) (h14 : r.length ≤ 14) (he : firstNZ [vJoints l, vWords [r]] = 0) => unsandhi_calls A c l Ar cr r W (hl.ext h) hcr hr h14 he)
  have HS0 := Sh.mk (fun (W : World) (h : Ext w W) (A0 : Option Addr) (c0 : Nat) (p : List ByteArray) (hp : Kd.str.C none' W A0 p) => same_calls A0 Aa c0 ca p a W hp (ha.ext h))
  have HS1 := Sh.mk (fun (W : World) (h : Ext w W) (A0 : Option Addr) (c0 : Nat) (p : List ByteArray) (hp : Kd.str.C none' W A0 p) => same_calls A0 Ab c0 cb p b W hp (hb.ext h))
  have HKn := Sh.mk known_calls
  have hma := ha.1
  have hmb := hb.1
  clear hl ha hb hca hcb
  go_enter Try.func3, Try.ntmps3
  go_wp2_with fail
  (with_reducible refine (HLJ.out).mono ?_)
  rintro e w1 ⟨⟨n, rfl⟩, h1⟩
  have X1 := Sh.mk h1
  clear h1
  by_cases hn : 32000 < n
  · go_wp2_with ((with_reducible refine (HKn.out _).mono ?_); rintro e w2 ⟨rfl, h2⟩; have H2 := Sh.mk h2; clear h2)
    go_ret
    exact ⟨rfl, X1.out.trans H2.out⟩
  · go_wp2_with fail
    (with_reducible refine (HBy.out _ (X1.out.alloc _) _ (heap_new rfl)).mono ?_)
    rintro e w2 ⟨⟨n2, rfl⟩, rfl⟩
    by_cases hn2 : 32000 < n2
    · go_wp2_with ((with_reducible refine (HKn.out _).mono ?_); rintro e w2 ⟨rfl, h2⟩; have H2 := Sh.mk h2; clear h2)
      go_ret
      exact ⟨rfl, (X1.out.alloc _).trans H2.out⟩
    · by_cases ha0 : a.length = 0
      · have hab : (a.length == 0) = true := by simpa using ha0
        go_wp2_with ((with_reducible refine (HKn.out _).mono ?_); rintro e w2 ⟨rfl, h2⟩; have H2 := Sh.mk h2; clear h2)
        go_ret
        exact ⟨rfl, (X1.out.alloc _).trans H2.out⟩
      · have hab : ((a.length : Int) == 0) = false := beq_eq_false_iff_ne.2 (by omega)
        have ha1 : 0 < a.length := by omega
        by_cases hb0 : b.length = 0
        · have hbb : (b.length == 0) = true := by simpa using hb0
          go_wp2_with ((with_reducible refine (HKn.out _).mono ?_); rintro e w2 ⟨rfl, h2⟩; have H2 := Sh.mk h2; clear h2)
          go_ret
          exact ⟨rfl, (X1.out.alloc _).trans H2.out⟩
        · have hbb : ((b.length : Int) == 0) = false := beq_eq_false_iff_ne.2 (by omega)
          have hb1 : 0 < b.length := by omega
          clear ha0 hb0
          go_wp2_with fail
          (with_reducible refine (HSa.out _ (X1.out.alloc _)).mono ?_)
          intro e w3 h0
          obtain ⟨v, rfl, hv, h3⟩ := h0.out
          have X3 := Sh.mk ((X1.out.alloc _).trans h3)
          clear h0 h3
          have hfact : (sandhi l a b).2 = 0 → (sandhi l a b).1 = joinedL l a b ∧ (joinedL l a b).length ≤ 60 ∧ vJoints l = 0 ∧ vWord a = 0 ∧ vWord b = 0 := by
            intro h
            unfold sandhi at h ⊢
            by_cases hE : sandhiE l a b = 0
            · rw [if_pos hE] at h ⊢
              by_cases h6 : (joinedL l a b).length ≤ 60
              · rw [if_pos h6]
                have h7 := firstNZ_zero hE
                have h8 := firstNZ_zero (show firstNZ ([a, b].map vWord) = 0 from h7 (vWords [a, b]) (by simp))
                exact ⟨rfl, h6, h7 _ (by simp), h8 _ (by simp), h8 _ (by simp)⟩
              · rw [if_neg h6] at h
                exact absurd h (by decide)
            · rw [if_neg hE] at h
              exact absurd h hE
          have HF := Sh.mk hfact
          clear hfact
          generalize (sandhi l a b).2 = er at *
          obtain ⟨Ar, cr, rfl, hcr, hCr⟩ := hv
          generalize (sandhi l a b).1 = r at *
          have HR := Sh.mk hCr
          have hmr := hCr.1
          clear hCr
          by_cases he : er = 0
          · have heb : (er == 0) = true := by simpa using he
            have HF2 := Sh.mk (HF.out he)
            clear HF
            subst he
            by_cases h14 : 14 < r.length
            · go_wp2_with ((with_reducible refine (HKn.out _).mono ?_); rintro e w2 ⟨rfl, h2⟩; have H2 := Sh.mk h2; clear h2)
              go_ret
              exact ⟨rfl, X3.out.trans H2.out⟩
            · have HU := Sh.mk (HUn.out w3 X3.out Ar cr r hcr HR.out (by omega) (by
                have hw : vWord r = 0 := by rw [HF2.out.1]; exact joined_word l a b HF2.out.2.2.1 HF2.out.2.2.2.1 HF2.out.2.2.2.2 HF2.out.2.1
                have h5 : vWords [r] = 0 := by unfold vWords; simp [hw, firstNZ]
                rw [HF2.out.2.2.1, h5]; rfl))
              go_wp2_with fail
              (with_reducible refine (HU.out).mono ?_)
              intro e w4 h0
              obtain ⟨v4, zs, rfl, hz, hmem, h4⟩ := h0.out
              clear h0
              obtain ⟨Az, cz, rfl, hcz, hCz⟩ := hz
              have HZ := Sh.mk (And.intro hCz (X3.out.trans h4))
              have hmz := hCz.1
              have HMem := Sh.mk (show (a, b) ∈ zs from hmem _ (by
                have h60a := vWord_len HF2.out.2.2.2.1
                have h60b := vWord_len HF2.out.2.2.2.2
                have := there l a b ha1 hb1 h60a h60b
                rw [HF2.out.1]
                exact this))
              clear hmem h4 hCz
              go_wp2_with fail
              go_loopw [11] (fun v11 wr => ∃ i : Nat, i ≤ zs.length ∧ v11 = .int .i64 i ∧ Sh (Ext w4 wr ∧ ∀ m (h : m < zs.length), m < i → ¬ zs[m] = (a, b))) (fun v11 _ => zs.length - (intOf v11).toNat)
              case atStart => exact ⟨0, by omega, rfl, ⟨Ext.refl _, fun m _ h => absurd h (by omega)⟩⟩
              case round =>
                obtain ⟨i, hi, rfl, HI⟩ := hrel
                by_cases hlt : i < zs.length
                · obtain ⟨ad, A0, c0, A1, c1, rfl, hc0, hc1, hC0, hC1⟩ := at_P HZ.out.1 i hlt
                  have hd0 := HI.out.1.cell hc0
                  have hd1 := HI.out.1.cell hc1
                  have HE0 := Sh.mk (HS0.out wr (HZ.out.2.trans HI.out.1) A0 c0 zs[i].1 (hC0.ext HI.out.1))
                  have HE1 := Sh.mk (fun (W : World) (h : Ext wr W) => HS1.out W ((HZ.out.2.trans HI.out.1).trans h) A1 c1 zs[i].2 (hC1.ext (HI.out.1.trans h)))
                  have HP := Sh.mk (show zs[i] = (a, b) → zs[i].1 = a ∧ zs[i].2 = b from fun h => by rw [h]; exact ⟨rfl, rfl⟩)
                  have HN := Sh.mk (fun (hne : ¬ zs[i] = (a, b)) m (h : m < zs.length) (hm : m < i + 1) => show ¬ zs[m] = (a, b) from by
                    by_cases e : m = i
                    · subst e; exact hne
                    · exact HI.out.2 m h (by omega))
                  clear hc0 hc1 hC0 hC1
                  generalize hq : zs[i] = q at *
                  clear hq
                  obtain ⟨q0, q1⟩ := q
                  go_wp2_with fail
                  (with_reducible refine (HE0.out).mono ?_)
                  intro e w5 h0
                  obtain ⟨r0, rfl, h1, h2⟩ := h0.out
                  have H5 := Sh.mk (And.intro h1 h2.ext)
                  have hd1' := h2.ext.cell hd1
                  clear h0 h1 h2
                  cases r0 with
                  | false =>
                    go_wp2_with fail
                    go_roundw
                    case measure => simp [intOf]; omega
                    case rel => exact ⟨i + 1, by omega, by go_num, ⟨HI.out.1.trans H5.out.2, HN.out (fun h => absurd (H5.out.1 (HP.out h).1) (by decide))⟩⟩
                  | true =>
                    go_wp2_with fail
                    (with_reducible refine (HE1.out _ H5.out.2).mono ?_)
                    intro e w6 h0
                    obtain ⟨r1, rfl, h1, h2⟩ := h0.out
                    have H6 := Sh.mk (And.intro h1 h2.ext)
                    clear h0 h1 h2
                    cases r1 with
                    | false =>
                      go_wp2_with fail
                      go_roundw
                      case measure => simp [intOf]; omega
                      case rel => exact ⟨i + 1, by omega, by go_num, ⟨(HI.out.1.trans H5.out.2).trans H6.out.2, HN.out (fun h => absurd (H6.out.1 (HP.out h).2) (by decide))⟩⟩
                    | true =>
                      go_wp2_with ((with_reducible refine (HKn.out _).mono ?_); rintro e w7 ⟨rfl, h2⟩; have H7 := Sh.mk h2; clear h2)
                      go_ret
                      exact ⟨rfl, (((HZ.out.2.trans HI.out.1).trans H5.out.2).trans H6.out.2).trans H7.out⟩
                · exfalso
                  obtain ⟨m, hm, e⟩ := List.mem_iff_getElem.1 HMem.out
                  exact HI.out.2 m hm (by omega) e
          · have heb : (er == 0) = false := by simpa using he
            go_wp2_with ((with_reducible refine (HKn.out _).mono ?_); rintro e w2 ⟨rfl, h2⟩; have H2 := Sh.mk h2; clear h2)
            go_ret
            exact ⟨rfl, X3.out.trans H2.out⟩
end Go.Proofs.Ythfonlnlopmonaa

/- Layer 13: what the joints' functions answer: words, first, joints, begins, held. -/
import Derived.Test.YthfonlnlopmonaaHb
set_option linter.unusedVariables false
set_option linter.unusedSimpArgs false
namespace Go.Proofs.Ythfonlnlopmonaa
open Go.RowKit

/-- what the layer says of joints -/
def vJoints (l : List Joint) : Int := if 24 < l.length then 3 else if firstNZ (l.map fun j => vWords [j.A, j.B, j.C]) = 0 then (if l.any emptyJ = true then 1 else 0) else firstNZ (l.map fun j => vWords [j.A, j.B, j.C])
theorem ent_joints1 : Entered Try.prog 29 := fun _ _ => rfl
set_option maxHeartbeats 2000000 in
theorem joints_calls (A : Option Addr) (c : Nat) (l : List Joint) (M : Nat → Prop) (w : World) (hr : kJoint.C M w A l) :
    Calls Try.prog 12 #[.slice A l.length c] w fun e w' => e = .returned (.int .i64 (vJoints l)) ∧ Ext w w' := by
  have HR := Sh.mk hr
  have hm := hr.1
  have HC := Sh.mk (fun (w1 : World) (hx : Ext w w1) => contains_Joint Mode.ex 29 #[] emptyJ ent_joints1 A c l M w1 (hr.ext hx) (fun x _ w2 v _ hv => joints1_calls x M w2 v hv))
  obtain ⟨f, hf⟩ : ∃ f : Joint → Int, f = fun j => vWords [j.A, j.B, j.C] := ⟨_, rfl⟩
  have HF := Sh.mk (show ∀ j : Joint, f j = vWords [j.A, j.B, j.C] by intro j; rw [hf])
  have HV := Sh.mk (show vJoints l = if 24 < l.length then 3 else if fNZ (l.map f) 0 = 0 then (if l.any emptyJ = true then 1 else 0) else fNZ (l.map f) 0 by rw [hf]; rfl)
  clear hr hf
  by_cases h24 : 24 < l.length
  · go_enter Try.func12, Try.ntmps12
    go_wp2_with fail
    go_ret
    exact ⟨by rw [HV.out, if_pos h24]; rfl, Ext.refl _⟩
  · go_enter Try.func12, Try.ntmps12
    go_wp2_with fail
    go_loopw [11] (fun v11 wr => ∃ k : Nat, k ≤ l.length ∧ v11 = .int .i64 k ∧ Sh (fNZ (l.map f) 0 = fNZ (l.map f) k) ∧ Sh (Ext w wr)) (fun v11 _ => l.length - (intOf v11).toNat)
    case atStart => exact ⟨0, by omega, rfl, ⟨rfl⟩, ⟨Ext.refl _⟩⟩
    case round =>
      obtain ⟨k, hk, rfl, H, HX⟩ := hrel
      by_cases hlt : k < l.length
      · obtain ⟨ad, A0, c0, A1, c1, A2, c2, rfl, hmad, hc0, hc1, hc2, ⟨hl0, hg0⟩, ⟨hl1, hg1⟩, ⟨hl2, hg2⟩⟩ := at_Joint HR.out k hlt
        have hd0 := HX.out.cell hc0
        have hd1 := HX.out.cell hc1
        have hd2 := HX.out.cell hc2
        have HE := Sh.mk (firstNZ_drop (l.map f) k (by simpa using hlt))
        have HG := Sh.mk (show (l.map f)[k]'(by simpa using hlt) = vWords [l[k].A, l[k].B, l[k].C] by simp [HF.out])
        have HW := Sh.mk (fun (b : Nat) (W : World) (hx : Ext wr W) (hb : W.heap[b]? = some (.cells #[.slice A0 l[k].A.length c0, .slice A1 l[k].B.length c1, .slice A2 l[k].C.length c2] 23 (0, 0))) =>
          (show Calls Try.prog 13 #[.slice (some ⟨b, 0, none⟩) 3 3] W _ from words_calls (some ⟨b, 0, none⟩) 3 [l[k].A, l[k].B, l[k].C] none' W
            (Kd.C_block hb (fun x => x) (by simp) (.cons (Kd.sl_K hl0 (((hg0.weak (fun _ _ x => x.elim)).ext HX.out).ext hx)) (.cons (Kd.sl_K hl1 (((hg1.weak (fun _ _ x => x.elim)).ext HX.out).ext hx)) (.cons (Kd.sl_K hl2 (((hg2.weak (fun _ _ x => x.elim)).ext HX.out).ext hx)) (.nil ..)))))))
        clear hc0 hc1 hc2 hg0 hg1 hg2 hl0 hl1 hl2
        generalize hx : vWords [l[k].A, l[k].B, l[k].C] = x at *
        clear hx
        by_cases hx0 : x = 0
        · have HX0 := Sh.mk hx0
          have hxb : (x == 0) = true := by simpa using hx0
          clear hx0
          go_wp2_with ((with_reducible refine (HW.out _ _ (((Ext.refl _).alloc _).alloc _) (heap_new (by simp))).mono ?_); rintro e w' ⟨rfl, h2⟩; have H2 := Sh.mk h2; clear h2)
          go_roundw
          case rel => exact ⟨k + 1, by omega, by go_num, ⟨by rw [H.out]; unfold fNZ; rw [HE.out, HG.out, if_pos HX0.out]⟩, ⟨((HX.out.alloc _).alloc _).trans H2.out.ext⟩⟩
          case measure => simp [intOf]; omega
        · have HX0 := Sh.mk hx0
          have hxb : (x == 0) = false := by simpa using hx0
          clear hx0
          go_wp2_with ((with_reducible refine (HW.out _ _ (((Ext.refl _).alloc _).alloc _) (heap_new (by simp))).mono ?_); rintro e w' ⟨rfl, h2⟩; have H2 := Sh.mk h2; clear h2)
          go_ret
          have hq : fNZ (l.map f) 0 = x := by rw [H.out]; unfold fNZ; rw [HE.out, HG.out, if_neg HX0.out]
          exact ⟨by rw [HV.out, if_neg h24, hq, if_neg HX0.out]; rfl, ((HX.out.alloc _).alloc _).trans H2.out.ext⟩
      · have HE := Sh.mk (firstNZ_end (l.map f) k (by simpa using hlt))
        have hq := Sh.mk (show fNZ (l.map f) 0 = 0 by rw [H.out]; unfold fNZ; rw [HE.out])
        generalize l.any emptyJ = b at *
        go_wp2_with ((with_reducible refine (HC.out _ HX.out).mono ?_); rintro e w' ⟨rfl, h2⟩; have H2 := Sh.mk h2; clear h2)
        all_goals go_ret
        all_goals exact ⟨by rw [HV.out, if_neg h24, hq.out]; simp [*], HX.out.trans H2.out⟩
end Go.Proofs.Ythfonlnlopmonaa

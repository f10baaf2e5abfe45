/- Layer 13: the joints as kinds. -/
import Derived.Test.YthfonlnlopmonaaSyms
set_option linter.unusedVariables false
set_option linter.unusedSimpArgs false
namespace Go.Proofs.Ythfonlnlopmonaa
open Go.RowKit
/-! #### Joint -/
structure Joint where
  A : List ByteArray
  B : List ByteArray
  C : List ByteArray
def kJoint : Kd Joint := Kd.iso (Kd.pair (Kd.sl Kd.str) (Kd.pair (Kd.sl Kd.str) (Kd.sl Kd.str))) (fun x => (x.A, x.B, x.C))
theorem kJoint_open {M : Nat → Prop} {w : World} {x : Joint} {cs : List Value} (h : kJoint.K M w x cs) : ∃ A0 c0 A1 c1 A2 c2, cs = [.slice A0 x.A.length c0, .slice A1 x.B.length c1, .slice A2 x.C.length c2] ∧ (x.A.length ≤ c0 ∧ Kd.C Kd.str M w A0 x.A) ∧ (x.B.length ≤ c1 ∧ Kd.C Kd.str M w A1 x.B) ∧ (x.C.length ≤ c2 ∧ Kd.C Kd.str M w A2 x.C) := by
  obtain ⟨_, _, rfl, ⟨_, rfl, A0, c0, rfl, l0, g0⟩, ⟨_, _, rfl, ⟨_, rfl, A1, c1, rfl, l1, g1⟩, ⟨_, rfl, A2, c2, rfl, l2, g2⟩⟩⟩ := h
  exact ⟨A0, c0, A1, c1, A2, c2, rfl, ⟨l0, g0⟩, ⟨l1, g1⟩, ⟨l2, g2⟩⟩
theorem kJoint_mk (M : Nat → Prop) (w : World) (x : Joint) {A0 : Option Addr} {c0 : Nat} (l0 : x.A.length ≤ c0) (g0 : Kd.C Kd.str M w A0 x.A) {A1 : Option Addr} {c1 : Nat} (l1 : x.B.length ≤ c1) (g1 : Kd.C Kd.str M w A1 x.B) {A2 : Option Addr} {c2 : Nat} (l2 : x.C.length ≤ c2) (g2 : Kd.C Kd.str M w A2 x.C) : kJoint.K M w x [.slice A0 x.A.length c0, .slice A1 x.B.length c1, .slice A2 x.C.length c2] := ⟨_, _, rfl, ⟨_, rfl, A0, c0, rfl, l0, g0⟩, ⟨_, _, rfl, ⟨_, rfl, A1, c1, rfl, l1, g1⟩, ⟨_, rfl, A2, c2, rfl, l2, g2⟩⟩⟩
theorem at_Joint {M : Nat → Prop} {w : World} {A : Option Addr} {xs : List Joint} (h : kJoint.C M w A xs) (i : Nat) (hi : i < xs.length) : ∃ ad A0 c0 A1 c1 A2 c2, A = some ad ∧ ¬ M ad.block ∧ w.cell? (ad.add (i * 3)) = some (.slice A0 xs[i].A.length c0) ∧ w.cell? ⟨(ad.add (i * 3)).block, (ad.add (i * 3)).off + 1, none⟩ = some (.slice A1 xs[i].B.length c1) ∧ w.cell? ⟨(ad.add (i * 3)).block, (ad.add (i * 3)).off + 2, none⟩ = some (.slice A2 xs[i].C.length c2) ∧ (xs[i].A.length ≤ c0 ∧ Kd.C Kd.str M w A0 xs[i].A) ∧ (xs[i].B.length ≤ c1 ∧ Kd.C Kd.str M w A1 xs[i].B) ∧ (xs[i].C.length ≤ c2 ∧ Kd.C Kd.str M w A2 xs[i].C) := by
  obtain ⟨ad, cs, rfl, hm, hK, hc0⟩ := h.at i hi
  have hc : ∀ j u, cs[j]? = some u → w.cell? (ad.add (i * 3 + j)) = some u := hc0
  obtain ⟨A0, c0, A1, c1, A2, c2, rfl, ⟨l0, g0⟩, ⟨l1, g1⟩, ⟨l2, g2⟩⟩ := kJoint_open hK
  exact ⟨ad, A0, c0, A1, c1, A2, c2, rfl, hm, by have := hc 0 _ rfl; simpa using this, by rw [← add_field _ _ 1 (by omega)]; exact hc 1 _ rfl, by rw [← add_field _ _ 2 (by omega)]; exact hc 2 _ rfl, ⟨l0, g0⟩, ⟨l1, g1⟩, ⟨l2, g2⟩⟩

set_option maxHeartbeats 2000000 in
theorem index_Joint {R : World → World → Prop} (hR : Mode R) (g : Nat) (cap : Array Value) (p : Joint → Bool) (hg : Entered Try.prog g) (A : Option Addr) (c : Nat) (l : List Joint) (M : Nat → Prop) (w : World) (hr : kJoint.C M w A l)
    (hp : ∀ x, x ∈ l → ∀ w1 v, Ext w w1 → kJoint.Agg M w1 x v → Calls Try.prog g (#[v] ++ cap) w1 fun e w2 => e = .returned (.bool (p x)) ∧ R w1 w2) :
    Calls Try.prog 37 #[.slice A l.length c, .func (.func g) #[] cap] w fun e w' => e = .returned (.int .i64 (idxFrom p l 0)) ∧ R w w' := by
  have HR := Sh.mk hr
  have HP := Sh.mk hp
  have hm : l.length ≤ 140737488355328 := hr.1
  have hg' : ∀ (xs : Array Value) (w : World), (callFunc g xs).run Try.prog w = .ok (.enter g xs) w := hg
  clear hr hp
  go_enter Try.func37, Try.ntmps37
  go_wp2_with fail
  go_loopw [8] (fun v8 wr => ∃ k : Nat, k ≤ l.length ∧ v8 = .int .i64 k ∧ Sh (idxFrom p l 0 = idxFrom p (l.drop k) k) ∧ Sh (R w wr)) (fun v8 _ => l.length - (intOf v8).toNat)
  case atStart => exact ⟨0, by omega, rfl, ⟨rfl⟩, ⟨hR.refl _⟩⟩
  case round =>
    obtain ⟨k, hk, rfl, H, HW⟩ := hrel
    by_cases hlt : k < l.length
    · obtain ⟨ad, A0, c0, A1, c1, A2, c2, rfl, hmad, hc0, hc1, hc2, ⟨hl0, hg0⟩, ⟨hl1, hg1⟩, ⟨hl2, hg2⟩⟩ := at_Joint HR.out k hlt
      have HX := Sh.mk (hR.ext HW.out)
      have hd0 := HX.out.cell hc0
      have hd1 := HX.out.cell hc1
      have hd2 := HX.out.cell hc2
      have HPk := Sh.mk (HP.out l[k] (List.getElem_mem hlt) wr _ HX.out ⟨_, kJoint_mk M wr l[k] hl0 (hg0.ext HX.out) hl1 (hg1.ext HX.out) hl2 (hg2.ext HX.out), rfl⟩)
      have HE := Sh.mk (idxFrom_drop p l k hlt)
      clear hc0 hc1 hc2 hg0 hg1 hg2
      generalize l[k] = x at *
      generalize hb : p x = b at *
      clear hb
      go_wp2_with ((with_reducible refine (HPk.out).mono ?_); rintro e w' ⟨rfl, h2⟩; have H2 := Sh.mk h2; clear h2)
      · go_ret
        rw [H.out, HE.out]
        exact ⟨by simp [*], hR.trans HW.out H2.out⟩
      · go_roundw
        case rel => exact ⟨k + 1, by omega, by go_num, ⟨by rw [H.out, HE.out]; simp [*]⟩, ⟨hR.trans HW.out H2.out⟩⟩
        case measure => simp [intOf]; omega
    · have HE := Sh.mk (idxFrom_end p l k hlt)
      go_wp2_with fail
      go_ret
      exact ⟨by rw [H.out, HE.out]; rfl, HW.out⟩
set_option maxHeartbeats 1000000 in
theorem contains_Joint {R : World → World → Prop} (hR : Mode R) (g : Nat) (cap : Array Value) (p : Joint → Bool) (hg : Entered Try.prog g) (A : Option Addr) (c : Nat) (l : List Joint) (M : Nat → Prop) (w : World) (hr : kJoint.C M w A l)
    (hp : ∀ x, x ∈ l → ∀ w1 v, Ext w w1 → kJoint.Agg M w1 x v → Calls Try.prog g (#[v] ++ cap) w1 fun e w2 => e = .returned (.bool (p x)) ∧ R w1 w2) :
    Calls Try.prog 28 #[.slice A l.length c, .func (.func g) #[] cap] w fun e w' => e = .returned (.bool (l.any p)) ∧ R w w' := by
  have HI := Sh.mk (index_Joint hR g cap p hg A c l M w hr hp)
  have HE := Sh.mk (idxFrom_any p l 0)
  clear hr hp
  go_enter Try.func28, Try.ntmps28
  go_wp2_with (go_at_call 37; (with_reducible refine (HI.out).mono ?_); rintro e w' ⟨rfl, h2⟩; have H2 := Sh.mk h2; clear h2)
  go_ret
  exact ⟨by rw [← HE.out]; simp, H2.out⟩
def emptyJ (j : Joint) : Bool := decide (j.A.length + j.B.length = 0)
set_option maxHeartbeats 1000000 in
theorem joints1_calls (x : Joint) (M : Nat → Prop) (w : World) (v : Value) (h : kJoint.Agg M w x v) : Calls Try.prog 29 #[v] w fun e w' => e = .returned (.bool (emptyJ x)) ∧ Ext w w' := by
  obtain ⟨cs, hK, rfl⟩ := h
  obtain ⟨A0, c0, A1, c1, A2, c2, rfl, ⟨l0, g0⟩, ⟨l1, g1⟩, ⟨l2, g2⟩⟩ := kJoint_open hK
  have h0 := g0.1
  have h1 := g1.1
  have hE := Sh.mk (show emptyJ x = decide ((x.A.length : Int) + x.B.length = 0) by unfold emptyJ; congr 1; apply propext; omega)
  clear g0 g1 g2 hK
  go_enter Try.func29, Try.ntmps29
  go_wp2_with fail
  go_ret
  exact ⟨by rw [hE.out]; rfl, (Ext.refl _).alloc _⟩
end Go.Proofs.Ythfonlnlopmonaa

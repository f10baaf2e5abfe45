/- Layer 13: what the joints' functions answer: words, first, joints, begins, held. -/
import Derived.Test.YthfonlnlopmonaaHg
import Derived.Test.YthfonlnlopmonaaCmp
import Derived.StillTailTactics
set_option linter.unusedVariables false
set_option linter.unusedSimpArgs false
namespace Go.Proofs.Ythfonlnlopmonaa
open Go.RowKit

abbrev Pr := List ByteArray × List ByteArray
def cmpP (x y : Pr) : Int := thenC (cmpW x.1 y.1) (cmpW x.2 y.2)
theorem cmpP_lin : Lin cmpP := thenC_lin cmpW_lin cmpW_lin
theorem kP_open {M : Nat → Prop} {w : World} {x : Pr} {cs : List Value} (h : kP.K M w x cs) : ∃ A0 c0 A1 c1, cs = [.slice A0 x.1.length c0, .slice A1 x.2.length c1] ∧ (x.1.length ≤ c0 ∧ Kd.str.C M w A0 x.1) ∧ (x.2.length ≤ c1 ∧ Kd.str.C M w A1 x.2) := by
  obtain ⟨_, _, rfl, ⟨_, rfl, A0, c0, rfl, l0, g0⟩, ⟨_, rfl, A1, c1, rfl, l1, g1⟩⟩ := h
  exact ⟨A0, c0, A1, c1, rfl, ⟨l0, g0⟩, ⟨l1, g1⟩⟩
set_option maxHeartbeats 2000000 in
theorem order_calls (x y : Pr) (M : Nat → Prop) (w : World) (u v : Value) (hx : kP.Agg M w x u) (hy : kP.Agg M w y v) : Calls Try.prog 21 #[u, v] w fun e w' => e = .returned (.int .i64 (cmpP x y)) ∧ ∃ o1 o2, w' = (w.alloc o1).alloc o2 := by
  obtain ⟨cs, hK, rfl⟩ := hx
  obtain ⟨ds, hL, rfl⟩ := hy
  obtain ⟨A0, c0, A1, c1, rfl, ⟨l0, g0⟩, ⟨l1, g1⟩⟩ := kP_open hK
  obtain ⟨B0, d0, B1, d1, rfl, ⟨m0, h0⟩, ⟨m1, h1⟩⟩ := kP_open hL
  have H1 := Sh.mk (fun W (hW : Ext w W) => cmpW_calls A0 B0 c0 d0 x.1 y.1 M M W (g0.ext hW) (h0.ext hW))
  have H2 := Sh.mk (fun W (hW : Ext w W) => cmpW_calls A1 B1 c1 d1 x.2 y.2 M M W (g1.ext hW) (h1.ext hW))
  have HV := Sh.mk (show cmpP x y = thenC (cmpW x.1 y.1) (cmpW x.2 y.2) from rfl)
  clear hK hL g0 g1 h0 h1
  generalize cmpW x.1 y.1 = r at *
  generalize cmpW x.2 y.2 = q at *
  by_cases hr : r = 0
  · have hrb : (r == 0) = true := by simpa using hr
    have HR := Sh.mk hr
    clear hr
    go_enter Try.func21, Try.ntmps21
    go_wp2_with fail
    (with_reducible refine (H1.out _ (((Ext.refl _).alloc _).alloc _)).mono ?_)
    rintro e w' ⟨rfl, rfl⟩
    go_wp2_with fail
    (with_reducible refine (H2.out _ (((Ext.refl _).alloc _).alloc _)).mono ?_)
    rintro e w' ⟨rfl, rfl⟩
    go_wp2_with fail
    go_ret
    exact ⟨by rw [HV.out]; unfold thenC; rw [if_neg (by simpa using HR.out)]; rfl, _, _, rfl⟩
  · have hrb : (r == 0) = false := by simpa using hr
    have HR := Sh.mk hr
    clear hr
    go_enter Try.func21, Try.ntmps21
    go_wp2_with fail
    (with_reducible refine (H1.out _ (((Ext.refl _).alloc _).alloc _)).mono ?_)
    rintro e w' ⟨rfl, rfl⟩
    go_wp2_with fail
    go_ret
    exact ⟨by rw [HV.out]; unfold thenC; rw [if_pos (by simpa using HR.out)]; rfl, _, _, rfl⟩
set_option maxHeartbeats 2000000 in
theorem order0_calls (bo : Nat) (x y : Pr) (M : Nat → Prop) (w : World) (u v : Value) (hbo : w.cell? ⟨bo, 0, none⟩ = some (.func (.func 21) #[] #[])) (hx : kP.Agg M w x u) (hy : kP.Agg M w y v) : Calls Try.prog 25 #[u, v, .pointer (some ⟨bo, 0, none⟩)] w fun e w' => e = .returned (.bool (decide (x = y))) ∧ Ext w w' := by
  have H1 := Sh.mk (fun W (hW : Ext w W) => order_calls x y M W u v (hx.ext hW) (hy.ext hW))
  have HV := Sh.mk (show decide (x = y) = (cmpP x y == 0) by rw [Bool.eq_iff_iff]; simp [cmpP_lin.eq0])
  obtain ⟨cs, hK, rfl⟩ := hx
  obtain ⟨ds, hL, rfl⟩ := hy
  obtain ⟨A0, c0, A1, c1, rfl, ⟨l0, g0⟩, ⟨l1, g1⟩⟩ := kP_open hK
  obtain ⟨B0, d0, B1, d1, rfl, ⟨m0, h0⟩, ⟨m1, h1⟩⟩ := kP_open hL
  clear hK hL g0 g1 h0 h1
  have hlt : bo < w.heap.size := World.block_lt_of_cell? w _ hbo
  have n1 : ¬ bo = w.heap.size := by omega
  have n2 : ¬ bo = w.heap.size + 1 := by omega
  generalize cmpP x y = r at *
  go_enter Try.func25, Try.ntmps25
  go_wp2_with fail
  (with_reducible refine (H1.out _ (((Ext.refl _).alloc _).alloc _)).mono ?_)
  rintro e w' ⟨rfl, o1, o2, rfl⟩
  go_wp2_with fail
  go_ret
  exact ⟨by rw [HV.out]; rfl, ((((Ext.refl _).alloc _).alloc _).alloc _).alloc _⟩
end Go.Proofs.Ythfonlnlopmonaa

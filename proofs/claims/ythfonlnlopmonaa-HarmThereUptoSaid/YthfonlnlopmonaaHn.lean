/- Layer 13: Weave and known. -/
import Derived.Test.YthfonlnlopmonaaHm
set_option linter.unusedVariables false
set_option linter.unusedSimpArgs false
namespace Go.Proofs.Ythfonlnlopmonaa
open Go.RowKit

def rt3 : List ByteArray := [⟨#[107]⟩, ⟨#[116]⟩, ⟨#[98]⟩]
def fm5 : List ByteArray := [⟨#[49]⟩, ⟨#[97]⟩, ⟨#[50]⟩, ⟨#[97]⟩, ⟨#[51]⟩]
theorem C_rt3 (b0 : Nat) (w : World) (h0 : w.heap[b0]? = some (.cells #[.string ⟨#[107]⟩, .string ⟨#[116]⟩, .string ⟨#[98]⟩] 9 (0, 0))) : Kd.str.C none' w (some ⟨b0, 0, none⟩) rt3 :=
  Kd.C_block h0 (fun x => x) (by decide) (.cons (cs := [.string ⟨#[107]⟩]) ⟨rfl, by decide⟩ (.cons (cs := [.string ⟨#[116]⟩]) ⟨rfl, by decide⟩ (.cons (cs := [.string ⟨#[98]⟩]) ⟨rfl, by decide⟩ (.nil ..))))
theorem C_fm5 (b1 : Nat) (w : World) (h1 : w.heap[b1]? = some (.cells #[.string ⟨#[49]⟩, .string ⟨#[97]⟩, .string ⟨#[50]⟩, .string ⟨#[97]⟩, .string ⟨#[51]⟩] 9 (0, 0))) : Kd.str.C none' w (some ⟨b1, 0, none⟩) fm5 :=
  Kd.C_block h1 (fun x => x) (by decide) (.cons (cs := [.string ⟨#[49]⟩]) ⟨rfl, by decide⟩ (.cons (cs := [.string ⟨#[97]⟩]) ⟨rfl, by decide⟩ (.cons (cs := [.string ⟨#[50]⟩]) ⟨rfl, by decide⟩ (.cons (cs := [.string ⟨#[97]⟩]) ⟨rfl, by decide⟩ (.cons (cs := [.string ⟨#[51]⟩]) ⟨rfl, by decide⟩ (.nil ..))))))
theorem words_two : vWords [rt3, fm5] = 0 := by kernel_rfl
set_option maxHeartbeats 2000000 in
theorem weave_calls (b0 b1 : Nat) (w : World) (h0 : w.heap[b0]? = some (.cells #[.string ⟨#[107]⟩, .string ⟨#[116]⟩, .string ⟨#[98]⟩] 9 (0, 0))) (h1 : w.heap[b1]? = some (.cells #[.string ⟨#[49]⟩, .string ⟨#[97]⟩, .string ⟨#[50]⟩, .string ⟨#[97]⟩, .string ⟨#[51]⟩] 9 (0, 0))) :
    Calls Try.prog 10 #[.slice (some ⟨b0, 0, none⟩) 3 3, .slice (some ⟨b1, 0, none⟩) 5 5] w fun e w' => ∃ g, e = .returned (.tuple #[.slice (some ⟨g, 0, none⟩) 5 5, .int .i64 0]) ∧ Sh (w'.heap[g]? = some (.cells (wov 5).toArray 9 (0, 0)) ∧ Ext w w') := by
  have HW := Sh.mk (fun (b : Nat) (W : World) (h : Ext w W) (hb1 : W.heap[b]? = some (.cells #[.slice (some ⟨b0, 0, none⟩) 3 3, .slice (some ⟨b1, 0, none⟩) 5 5] 23 (0, 0))) =>
    (show Calls Try.prog 13 #[.slice (some ⟨b, 0, none⟩) 2 2] W (fun e w' => e = .returned (.int .i64 0) ∧ Dr W w') from by
      have := words_calls (some ⟨b, 0, none⟩) 2 [rt3, fm5] none' W (Kd.C_block hb1 (fun x => x) (by decide) (.cons (Kd.sl_K (xs := rt3) (c := 3) (by decide) ((C_rt3 b0 w h0).ext h)) (.cons (Kd.sl_K (xs := fm5) (c := 5) (by decide) ((C_fm5 b1 w h1).ext h)) (.nil ..))))
      rw [words_two] at this
      exact this))
  have HV := Sh.mk (fun (W : World) (h : Ext w W) => woven_calls b0 b1 W (h.block' h0) (h.block' h1))
  clear h0 h1
  go_enter Try.func10, Try.ntmps10
  go_wp2_with fail
  (with_reducible refine (HW.out _ _ ((Ext.refl _).alloc _) (heap_new rfl)).mono ?_)
  rintro e w1 ⟨rfl, hd⟩
  have X1 := Sh.mk (((Ext.refl w).alloc _).trans hd.ext)
  clear hd
  go_wp2_with fail
  (with_reducible refine (HV.out _ X1.out).mono ?_)
  rintro e w2 ⟨rfl, H2⟩
  have X2 := Sh.mk (And.intro H2.out.1 (X1.out.trans H2.out.2))
  clear H2
  go_wp2_with fail
  go_ret2
  exact ⟨_, rfl, X2⟩
set_option maxHeartbeats 2000000 in
theorem known_calls (w : World) : Calls Try.prog 6 #[] w fun e w' => e = .returned (.bool true) ∧ Ext w w' := by
  have HV := Sh.mk (fun (b0 b1 : Nat) (W : World) (h0 : W.heap[b0]? = some (.cells #[.string ⟨#[107]⟩, .string ⟨#[116]⟩, .string ⟨#[98]⟩] 9 (0, 0))) (h1 : W.heap[b1]? = some (.cells #[.string ⟨#[49]⟩, .string ⟨#[97]⟩, .string ⟨#[50]⟩, .string ⟨#[97]⟩, .string ⟨#[51]⟩] 9 (0, 0))) => weave_calls b0 b1 W h0 h1)
  go_enter Try.func6, Try.ntmps6
  go_wp2_with fail
  (with_reducible refine (HV.out _ _ _ (heap_old (heap_new rfl)) (heap_new (by simp))).mono ?_)
  rintro e w1 ⟨g, rfl, H⟩
  have X1 := Sh.mk ((((Ext.refl w).alloc _).alloc _).trans H.out.2)
  have r2 := H.out.1
  have c0 : w1.cell? ⟨g, 0, none⟩ = some (.string ⟨#[107]⟩) := cell_of_row _ _ 0 _ _ _ r2
  have c2 : w1.cell? ⟨g, 2, none⟩ = some (.string ⟨#[116]⟩) := cell_of_row _ _ 2 _ _ _ r2
  have c3 : w1.cell? ⟨g, 3, none⟩ = some (.string ⟨#[97]⟩) := cell_of_row _ _ 3 _ _ _ r2
  clear r2 H
  go_wp2_with fail
  all_goals go_ret
  all_goals exact ⟨rfl, X1.out⟩
end Go.Proofs.Ythfonlnlopmonaa

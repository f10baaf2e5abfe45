/- Layer 13: the row HarmThere. -/
import Derived.Test.YthfonlnlopmonaaHq
import Derived.Test.YthfonlnlopmonaaOpen
import Derived.Test.YthfonlnlopmonaaChecked
import Derived.OpenShut
set_option linter.unusedVariables false
set_option linter.unusedSimpArgs false
namespace Go.Proofs.Ythfonlnlopmonaa
open Go.ChangeShapes Go.WideShapes Go.ChangeAt Go.RowKit

theorem kids : Kids Try.prog (· < Try.prog.types.size) := kids_rows (by kernel_rfl) (by kernel_rfl)
theorem fulls : ∀ t e, t < Try.prog.types.size → Try.prog.underlying t = some (.slice e) → 0 < Try.prog.cellsOf e := slices_full_of _ (by kernel_rfl)
section
variable {H : Type} {enc : TypeId × Value → H} {W : World}
theorem op_words : Op (Kd.sl Kd.str) enc Try.prog W 23 (fun xs b => xs.length ≤ b) := by
  intro n cs y h hb
  obtain ⟨x, h1, h2⟩ := op_sl (Q := fun _ _ => True) (fun _ _ _ _ h => h) Try.underlying23 (by kernel_rfl) (op_str Try.underlying9) n cs y h hb
  exact ⟨x, h1, h2.1⟩
theorem op_joint : Op kJoint enc Try.prog W 37 (fun j b => j.C.length ≤ b) := by
  intro n cs y h hb
  obtain ⟨y0, y1, y2, n', rfl, hl, h0, h1, h2⟩ := Go.Deep.trod_struct3 Try.underlying37 h
  have hc : Try.prog.cellsOf 37 = 3 := by kernel_rfl
  have hc1 : Try.prog.cellsOf 23 = 1 := by kernel_rfl
  rw [hc] at hl
  simp only [Rows.uptoBulk, Rows.uptoBulkAll] at hb ⊢
  match cs, hl with
  | [v0, v1, v2], _ =>
    simp [hc1] at h0 h1 h2
    obtain ⟨xA, ⟨_, e0, hA⟩, hA2⟩ := op_words _ _ _ h0 (by omega)
    obtain ⟨xB, ⟨_, e1, hB⟩, hB2⟩ := op_words _ _ _ h1 (by omega)
    obtain ⟨xC, ⟨_, e2, hC⟩, hC2⟩ := op_words _ _ _ h2 (by omega)
    cases e0
    cases e1
    cases e2
    exact ⟨⟨xA, xB, xC⟩, ⟨[v0], [v1, v2], rfl, ⟨_, rfl, hA⟩, ⟨[v1], [v2], rfl, ⟨_, rfl, hB⟩, ⟨_, rfl, hC⟩⟩⟩, by show xC.length ≤ _; omega⟩
end
theorem own : ownKnob Try.prog.godebug = none := by kernel_rfl
theorem contract (H : Type) (enc : TypeId × Value → H) (W : World) (base : Nat) (args : Array Value) (ds gs : List (DataW H)) (before : List MemPlace)
    (hval : ∀ (j : Nat) t v, Try.f3.params[j]? = some t → args[j]? = some v → Value.okWide Try.prog W .any base t v)
    (hW : DataW.Whole enc Try.prog Try.f3.params.toList Rows.harmThereSpec.vars false W args.toList ds gs before) (hk : Rows.uptoSmall H (ds ++ gs) = true) :
    Calls Try.prog 3 args W fun e W' => ∃ v, e = .returned v ∧ Rows.harmThereSpec.post enc Try.prog Try.f3 false true false false W args v W' := by
  have hW' := hW
  obtain ⟨p, q, hA0, hV, rfl, hfz, hnd⟩ := hW
  have hA : DataW.TrodAll enc Try.prog W 0 (fun _ => true) true Try.f3.params.toList args.toList ds p := hA0
  obtain ⟨rfl, rfl⟩ := trodVars_none hV
  have hA1 := hA
  rw [Try.params3] at hA1
  obtain ⟨v0, vs0, d0, ds0, p0, q0, hargs, rfl, rfl, h0, r0⟩ := trodAll_cons hA1
  obtain ⟨v1, vs1, d1, ds1, p1, q1, rfl, rfl, rfl, h1, r1⟩ := trodAll_cons r0
  obtain ⟨v2, vs2, d2, ds2, p2, q2, rfl, rfl, rfl, h2, r2⟩ := trodAll_cons r1
  obtain ⟨rfl, rfl, rfl⟩ := trodAll_nil r2
  obtain rfl : args = #[v0, v1, v2] := by cases args; simp_all
  obtain ⟨z0, m0, k0, rfl⟩ := okWide_slice Try.underlying22 (hval 0 22 v0 rfl rfl)
  obtain ⟨z1, m1, k1, rfl⟩ := okWide_slice Try.underlying23 (hval 1 23 v1 rfl rfl)
  obtain ⟨z2, m2, k2, rfl⟩ := okWide_slice Try.underlying23 (hval 2 23 v2 rfl rfl)
  have hb : Rows.uptoBulk d0 + (Rows.uptoBulk d1 + (Rows.uptoBulk d2 + 0)) ≤ 1048576 := of_decide_eq_true hk
  obtain ⟨n0, g0⟩ := h0
  obtain ⟨n1, g1⟩ := h1
  obtain ⟨n2, g2⟩ := h2
  obtain ⟨l, ⟨_, e0, A0, c0, f0, hl0, hC0⟩, hQ0⟩ := op_sl (Q := fun (j : Joint) b => j.C.length ≤ b) (fun _ _ _ h h' => Nat.le_trans h' h) Try.underlying22 (by kernel_rfl) op_joint _ _ _ g0 (show Rows.uptoBulk d0 ≤ 1048576 by omega)
  obtain ⟨a, ⟨_, e1, A1, c1, f1, hl1, hC1⟩, hQ1⟩ := op_words _ _ _ g1 (show Rows.uptoBulk d1 ≤ 1048576 by omega)
  obtain ⟨b, ⟨_, e2, A2, c2, f2, hl2, hC2⟩, hQ2⟩ := op_words _ _ _ g2 (show Rows.uptoBulk d2 ≤ 1048576 by omega)
  replace hQ1 : a.length ≤ Rows.uptoBulk d1 := hQ1
  replace hQ2 : b.length ≤ Rows.uptoBulk d2 := hQ2
  replace hQ0 : l.length ≤ Rows.uptoBulk d0 ∧ ∀ j ∈ l, j.C.length ≤ Rows.uptoBulk d0 := hQ0
  subst f0
  subst f1
  subst f2
  simp only [Value.cells, List.cons.injEq, and_true, Value.slice.injEq] at e0 e1 e2
  obtain ⟨rfl, rfl, rfl⟩ := e0
  obtain ⟨rfl, rfl, rfl⟩ := e1
  obtain ⟨rfl, rfl, rfl⟩ := e2
  have hj : (joinedL l a b).length * 16 ≤ 140737488355328 := by
    have h1 := joinedL_le l a b 1048576 (fun j hj => Nat.le_trans (hQ0.2 j hj) (by omega))
    omega
  refine (harmthere_calls _ _ _ _ _ _ l a b W hC0 hl1 hC1 hl2 hC2 hj).mono ?_
  rintro e W' ⟨rfl, hX⟩
  refine ⟨_, rfl, post_of_ext rfl (by simpa using hW') (by simpa using hA) kids fulls (by rw [Try.params3]; decide) hX rfl (fun _ _ _ => trodAll_cons_mk (shut_bool Try.underlying4 _) trodAll_mk0) (ok_one (by kernel_rfl) rfl (okWide_bool_mk Try.underlying4 _)) rfl⟩
set_option maxRecDepth 100000 in
theorem lifted (os : Os) (started : os.Started) (H : Type) (enc : TypeId × Value → H) (F : Stop.Interp) :
    ReturnsInHanded {} Try.checked os 3 .any ((Rows.OpenSpec.upto Rows.harmThereSpec).pre6 enc Try.prog Try.f3 Rows.harmThereUptoRow.domain false) (((Rows.OpenSpec.upto Rows.harmThereSpec).at F).post enc Try.prog Try.f3 false true false false) := by
  refine returnsInHanded_of_cond (C := Try.checked) (s := Rows.OpenSpec.upto Rows.harmThereSpec) (k := Rows.uptoSmall) rfl own started (by kernel_rfl) Try.func3
    (OpenSpec.witness (enc := enc) (C := Try.checked) (s := Rows.OpenSpec.upto Rows.harmThereSpec) (k := Rows.uptoSmall) rfl false ⟨#[], #[.slice none 0 0, .slice none 0 0, .slice none 0 0], []⟩ 8 (by kernel_rfl) (by kernel_rfl) (by kernel_rfl)
      (x := ([.nil, .nil, .nil], [], [])) (by kernel_rfl) rfl (by kernel_rfl)) ?_
  intro W base args ds gs before hval hW _ hk _
  exact contract H enc W base args ds gs before hval hW hk
theorem over : Rows.harmThereUptoRow.holds Try.pinned (Rows.OpenSpec.upto Rows.harmThereSpec) :=
  OpenClaim.holds_of_cond 3 Try.f3 rfl rfl rfl rfl rfl rfl rfl ⟨rfl, rfl, rfl, rfl, rfl⟩ rfl rfl rfl rfl rfl (by kernel_rfl) Try.func3 (by kernel_rfl)
    (of_decide_eq_true (by kernel_rfl)) (by unfold Func.isWrapper; first | (rw [if_pos (by decide +kernel)]; kernel_rfl) | (rw [if_neg (by decide +kernel)]; exact ⟨rfl, rfl⟩))
    (fun os started H enc _ F => lifted os started H enc F)
theorem harmThereUpto : Rows.HarmThereUptoSaid := over
end Go.Proofs.Ythfonlnlopmonaa

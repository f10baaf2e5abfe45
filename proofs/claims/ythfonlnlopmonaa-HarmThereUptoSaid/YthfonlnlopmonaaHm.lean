/- Layer 13: Weave, at the one call that the law makes. -/
import Derived.Test.YthfonlnlopmonaaHj
import Derived.Laws.CopyOwn
set_option linter.unusedVariables false
set_option linter.unusedSimpArgs false
namespace Go.Proofs.Ythfonlnlopmonaa
open Go.RowKit

def s1 (n : UInt8) : Value := .string ⟨#[n]⟩
theorem asked_49 (w : World) : Calls Try.prog 36 #[.string ⟨#[49]⟩] w fun e w' => e = .returned (.int .i64 1) ∧ w' = w := by
  go_enter Try.func36, Try.ntmps36
  go_wp2_with fail
  all_goals first | exact absurd ‹_ ≤ _› (by decide) | (go_ret; exact ⟨rfl, rfl⟩)
theorem asked_50 (w : World) : Calls Try.prog 36 #[.string ⟨#[50]⟩] w fun e w' => e = .returned (.int .i64 2) ∧ w' = w := by
  go_enter Try.func36, Try.ntmps36
  go_wp2_with fail
  all_goals first | exact absurd ‹_ ≤ _› (by decide) | (go_ret; exact ⟨rfl, rfl⟩)
theorem asked_51 (w : World) : Calls Try.prog 36 #[.string ⟨#[51]⟩] w fun e w' => e = .returned (.int .i64 3) ∧ w' = w := by
  go_enter Try.func36, Try.ntmps36
  go_wp2_with fail
  all_goals first | exact absurd ‹_ ≤ _› (by decide) | (go_ret; exact ⟨rfl, rfl⟩)
theorem asked_97 (w : World) : Calls Try.prog 36 #[.string ⟨#[97]⟩] w fun e w' => e = .returned (.int .i64 0) ∧ w' = w := by
  go_enter Try.func36, Try.ntmps36
  go_wp2_with fail
  all_goals first | exact absurd ‹_ ≤ _› (by decide) | (go_ret; exact ⟨rfl, rfl⟩)
def wov : Nat → List Value
  | 0 => [.string ⟨#[49]⟩, .string ⟨#[97]⟩, .string ⟨#[50]⟩, .string ⟨#[97]⟩, .string ⟨#[51]⟩]
  | 1 => [.string ⟨#[107]⟩, .string ⟨#[97]⟩, .string ⟨#[50]⟩, .string ⟨#[97]⟩, .string ⟨#[51]⟩]
  | 2 => [.string ⟨#[107]⟩, .string ⟨#[97]⟩, .string ⟨#[50]⟩, .string ⟨#[97]⟩, .string ⟨#[51]⟩]
  | 3 => [.string ⟨#[107]⟩, .string ⟨#[97]⟩, .string ⟨#[116]⟩, .string ⟨#[97]⟩, .string ⟨#[51]⟩]
  | 4 => [.string ⟨#[107]⟩, .string ⟨#[97]⟩, .string ⟨#[116]⟩, .string ⟨#[97]⟩, .string ⟨#[51]⟩]
  | _ => [.string ⟨#[107]⟩, .string ⟨#[97]⟩, .string ⟨#[116]⟩, .string ⟨#[97]⟩, .string ⟨#[98]⟩]
/-- a guard: the next operation is a call of copy -/
theorem at_copy_op {P : Program} {ops : Array Oper} {rest : List Oper} {a : Act} {Q : Exit → Act → World → Prop} {W : World} {d : Option Tmp} {xs : Array Operand} {ts : Array TypeId} {ty : TypeId} {pos : String} {aft : _} {gd : _}
    (h : wpList P ops Q (⟨d, .call { callee := .builtin .copy, args := xs, argTypes := ts }, ty, pos, aft, gd⟩ :: rest) a W) : wpList P ops Q (⟨d, .call { callee := .builtin .copy, args := xs, argTypes := ts }, ty, pos, aft, gd⟩ :: rest) a W := h
def zs5 : List Value := [.string ⟨#[]⟩, .string ⟨#[]⟩, .string ⟨#[]⟩, .string ⟨#[]⟩, .string ⟨#[]⟩]
theorem made5 (W : World) : (Instr.makeSlice 23 (.int .i64 5) (.int .i64 5)).run Try.prog W = .ok (.slice (some ⟨W.heap.size, 0, none⟩) 5 5) (W.alloc (.cells zs5.toArray 9)) := by
  obtain ⟨i0, hi, hzz⟩ := Option.map_eq_some_iff.1 info_str
  simp only [Prod.mk.injEq] at hzz
  obtain ⟨hz0, hz1, hz2⟩ := hzz
  have h := run_make W 23 9 i0 (.string ⟨#[]⟩) Try.underlying23 hi hz0 .i64 .i64 5 5 (by decide) (by decide) (by rw [hz2]; decide) (by decide)
  rw [hz1, show madeCells (Value.string ⟨#[]⟩).cells (Int.toNat 5 * Kd.str.sz) = zs5.toArray by kernel_rfl] at h
  exact h
set_option maxHeartbeats 4000000 in
theorem woven_calls (b0 b1 : Nat) (w : World) (h0 : w.heap[b0]? = some (.cells #[.string ⟨#[107]⟩, .string ⟨#[116]⟩, .string ⟨#[98]⟩] 9 (0, 0))) (h1 : w.heap[b1]? = some (.cells #[.string ⟨#[49]⟩, .string ⟨#[97]⟩, .string ⟨#[50]⟩, .string ⟨#[97]⟩, .string ⟨#[51]⟩] 9 (0, 0))) :
    Calls Try.prog 27 #[.slice (some ⟨b0, 0, none⟩) 3 3, .slice (some ⟨b1, 0, none⟩) 5 5] w fun e w' => e = .returned (.slice (some ⟨w.heap.size, 0, none⟩) 5 5) ∧ Sh (w'.heap[w.heap.size]? = some (.cells (wov 5).toArray 9 (0, 0)) ∧ Ext w w') := by
  have HM := made5 w
  have H0 := Sh.mk h0
  have H1 := Sh.mk h1
  have hc1 : ∀ j v, (wov 0)[j]? = some v → (w.alloc (.cells zs5.toArray 9)).cell? ((⟨b1, 0, none⟩ : Addr).add j) = some v := fun j v hv => by
    have hadd : (⟨b1, 0, none⟩ : Addr).add j = ⟨b1, j, none⟩ := by unfold Addr.add; split <;> simp_all
    rw [hadd, cell_of_row _ _ j _ _ _ (heap_old h1)]
    simpa [wov] using hv
  have HC1 := Sh.mk hc1
  clear h0 h1 hc1
  go_enter Try.func27, Try.ntmps27
  go_wp2_with ((with_reducible refine at_copy_op ?_); refine wpList_copy_splice rfl (.tmp 12) (.tmp 13) 23 23 rfl 9 Try.underlying23 (by kernel_rfl) (some ⟨w.heap.size, 0, none⟩) (some ⟨b1, 0, none⟩) 5 5 5 5 rfl rfl w.heap.size 0 zs5 9 (heap_new rfl) (wov 0) rfl (fun _ => ⟨rfl, _, rfl, HC1.out⟩) (by decide) (by decide) w.heap.size w (Ext.below ((Ext.refl w).alloc _)) (Nat.le_refl _) ?_; intro w2 hw2 hb2; have HW2 := Sh.mk (And.intro hw2.out (Ext.of_below hb2)); clear hw2 hb2)
  go_loopw [17] (fun v17 wr => ∃ k : Nat, k ≤ 5 ∧ v17 = .int .i64 k ∧ Sh (Ext w wr ∧ wr.heap[w.heap.size]? = some (.cells (wov k).toArray 9 (0, 0)))) (fun v17 _ => 5 - (intOf v17).toNat)
  case atStart => exact ⟨0, by omega, rfl, ⟨HW2.out.2, HW2.out.1⟩⟩
  case round =>
    obtain ⟨k, hk, rfl, HI⟩ := hrel
    have r0 := HI.out.1.block' H0.out
    have r1 := HI.out.1.block' H1.out
    have r2 := HI.out.2
    have hb0 : b0 < w.heap.size := (Array.getElem?_eq_some_iff.1 H0.out).1
    have hb1 : b1 < w.heap.size := (Array.getElem?_eq_some_iff.1 H1.out).1
    have hn0 : ¬ b0 = w.heap.size := by omega
    have hn1 : ¬ b1 = w.heap.size := by omega
    have p0 : wr.cell? ⟨b0, 0, none⟩ = some (.string ⟨#[107]⟩) := cell_of_row _ _ 0 _ _ _ r0
    have p1 : wr.cell? ⟨b0, 1, none⟩ = some (.string ⟨#[116]⟩) := cell_of_row _ _ 1 _ _ _ r0
    have p2 : wr.cell? ⟨b0, 2, none⟩ = some (.string ⟨#[98]⟩) := cell_of_row _ _ 2 _ _ _ r0
    have q0 : wr.cell? ⟨b1, 0, none⟩ = some (.string ⟨#[49]⟩) := cell_of_row _ _ 0 _ _ _ r1
    have q1 : wr.cell? ⟨b1, 1, none⟩ = some (.string ⟨#[97]⟩) := cell_of_row _ _ 1 _ _ _ r1
    have q2 : wr.cell? ⟨b1, 2, none⟩ = some (.string ⟨#[50]⟩) := cell_of_row _ _ 2 _ _ _ r1
    have q3 : wr.cell? ⟨b1, 3, none⟩ = some (.string ⟨#[97]⟩) := cell_of_row _ _ 3 _ _ _ r1
    have q4 : wr.cell? ⟨b1, 4, none⟩ = some (.string ⟨#[51]⟩) := cell_of_row _ _ 4 _ _ _ r1
    have hf : ∀ j, wr.frozen? ⟨w.heap.size, j, none⟩ = false := fun j => by simp [World.frozen?, r2]
    clear r0 r1
    have m1 : min (1 : Int) 3 = 1 := by decide
    have m2 : min (2 : Int) 3 = 2 := by decide
    have m3 : min (3 : Int) 3 = 3 := by decide
    have h5 : k = 0 ∨ k = 1 ∨ k = 2 ∨ k = 3 ∨ k = 4 ∨ k = 5 := by omega
    rcases h5 with rfl | rfl | rfl | rfl | rfl | rfl
    · have c0 : wr.cell? ⟨w.heap.size, 0, none⟩ = some (.string ⟨#[49]⟩) := cell_of_row _ _ 0 _ _ _ r2
      have f0 := hf 0
      clear r2 hf
      go_wp2_with (go_at_call 36; (with_reducible refine (asked_49 _).mono ?_); rintro e w' ⟨rfl, rfl⟩)
      go_roundw
      case measure => simp [intOf]
      case rel => exact ⟨0+1, by omega, by go_num, ⟨HI.out.1.set _ _ (Nat.le_refl _), heap_set HI.out.2⟩⟩
    · clear r2 hf
      go_wp2_with (go_at_call 36; (with_reducible refine (asked_97 _).mono ?_); rintro e w' ⟨rfl, rfl⟩)
      go_roundw
      case measure => simp [intOf]
      case rel => exact ⟨1+1, by omega, by go_num, HI⟩
    · have c0 : wr.cell? ⟨w.heap.size, 2, none⟩ = some (.string ⟨#[50]⟩) := cell_of_row _ _ 2 _ _ _ r2
      have f0 := hf 2
      clear r2 hf
      go_wp2_with (go_at_call 36; (with_reducible refine (asked_50 _).mono ?_); rintro e w' ⟨rfl, rfl⟩)
      go_roundw
      case measure => simp [intOf]
      case rel => exact ⟨2+1, by omega, by go_num, ⟨HI.out.1.set _ _ (Nat.le_refl _), heap_set HI.out.2⟩⟩
    · clear r2 hf
      go_wp2_with (go_at_call 36; (with_reducible refine (asked_97 _).mono ?_); rintro e w' ⟨rfl, rfl⟩)
      go_roundw
      case measure => simp [intOf]
      case rel => exact ⟨3+1, by omega, by go_num, HI⟩
    · have c0 : wr.cell? ⟨w.heap.size, 4, none⟩ = some (.string ⟨#[51]⟩) := cell_of_row _ _ 4 _ _ _ r2
      have f0 := hf 4
      clear r2 hf
      go_wp2_with (go_at_call 36; (with_reducible refine (asked_51 _).mono ?_); rintro e w' ⟨rfl, rfl⟩)
      go_roundw
      case measure => simp [intOf]
      case rel => exact ⟨4+1, by omega, by go_num, ⟨HI.out.1.set _ _ (Nat.le_refl _), heap_set HI.out.2⟩⟩
    · clear r2 hf
      go_wp2_with fail
      go_ret
      exact ⟨rfl, ⟨HI.out.2, HI.out.1⟩⟩
end Go.Proofs.Ythfonlnlopmonaa

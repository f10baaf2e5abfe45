/- Layer 13: what the joints' functions answer: words, first, joints, begins, held. -/
import Derived.Test.YthfonlnlopmonaaHc
import Derived.StillTailTactics
set_option linter.unusedVariables false
set_option linter.unusedSimpArgs false
namespace Go.Proofs.Ythfonlnlopmonaa
open Go.RowKit

/-- a list ends with another one -/
def endsB (a x : List ByteArray) : Bool := decide (x.length ≤ a.length) && decide (a.drop (a.length - x.length) = x)
def betterJ (a b : List ByteArray) (q j : Joint) : Joint := if endsB a j.A = true ∧ beginsB b j.B = true ∧ q.A.length + q.B.length < j.A.length + j.B.length then j else q
theorem betterJ_no (a b : List ByteArray) (q j : Joint) (h : ¬ (endsB a j.A = true ∧ beginsB b j.B = true ∧ q.A.length + q.B.length < j.A.length + j.B.length)) : betterJ a b q j = q := if_neg h
theorem betterJ_yes (a b : List ByteArray) (q j : Joint) (h : endsB a j.A = true ∧ beginsB b j.B = true ∧ q.A.length + q.B.length < j.A.length + j.B.length) : betterJ a b q j = j := if_pos h
def zJ : Joint := ⟨[], [], []⟩
def bestTo (a b : List ByteArray) (l : List Joint) (k : Nat) : Joint := (l.take k).foldl (betterJ a b) zJ
theorem bestTo_succ (a b : List ByteArray) (l : List Joint) (k : Nat) (h : k < l.length) : bestTo a b l (k + 1) = betterJ a b (bestTo a b l k) l[k] := by
  unfold bestTo; rw [List.take_succ_eq_append_getElem h, List.foldl_append]; rfl
theorem bestTo_ok (a b : List ByteArray) (l : List Joint) (k : Nat) : (bestTo a b l k).A.length ≤ a.length ∧ (bestTo a b l k).B.length ≤ b.length := by
  unfold bestTo
  generalize l.take k = t
  have : ∀ (t : List Joint) (q : Joint), q.A.length ≤ a.length ∧ q.B.length ≤ b.length → (t.foldl (betterJ a b) q).A.length ≤ a.length ∧ (t.foldl (betterJ a b) q).B.length ≤ b.length := by
    intro t
    induction t with
    | nil => exact fun q h => h
    | cons x t ih =>
      intro q h
      refine ih _ ?_
      unfold betterJ
      split
      · rename_i hc
        refine ⟨?_, ?_⟩
        · have := hc.1; unfold endsB at this; simp at this; omega
        · have := hc.2.1; unfold beginsB at this; simp at this; omega
      · exact h
  exact this t zJ ⟨by simp [zJ], by simp [zJ]⟩
def bestJ (l : List Joint) (a b : List ByteArray) : Joint := bestTo a b l l.length
/-- two words together -/
def joinedL (l : List Joint) (a b : List ByteArray) : List ByteArray := a.take (a.length - (bestJ l a b).A.length) ++ ((bestJ l a b).C ++ b.drop (bestJ l a b).B.length)

set_option maxHeartbeats 4000000 in
theorem joined_calls (Al : Option Addr) (cl : Nat) (l : List Joint) (Aa Ab : Option Addr) (ca cb : Nat) (a b : List ByteArray) (M : Nat → Prop) (w : World) (hM : ∀ k, M k → k < w.heap.size) (hl : kJoint.C M w Al l) (hca : a.length ≤ ca) (ha : Kd.str.C M w Aa a) (hcb : b.length ≤ cb) (hb : Kd.str.C M w Ab b)
    (hn : (joinedL l a b).length * 16 ≤ 140737488355328) :
    Calls Try.prog 15 #[.slice Al l.length cl, .slice Aa a.length ca, .slice Ab b.length cb] w fun e w' => Sh (∃ v, e = .returned v ∧ Kd.str.Own 9 M w' w.heap.size v (joinedL l a b) ∧ Ext w w') := by
  have HL := Sh.mk hl
  have HA := Sh.mk ha
  have HB := Sh.mk hb
  have hml := hl.1
  have hma := ha.1
  have hmb := hb.1
  clear hl ha hb
  go_enter Try.func15, Try.ntmps15
  go_wp2_with fail
  go_loopw [13] (fun v13 wr => Sh (∃ (k : Nat) (A0 A1 A2 : Option Addr) (c0 c1 c2 : Nat), k ≤ l.length ∧ v13 = .int .i64 k ∧ Ext w wr ∧
    wr.heap[w.heap.size]? = some (.cells #[.slice A0 (bestTo a b l k).A.length c0, .slice A1 (bestTo a b l k).B.length c1, .slice A2 (bestTo a b l k).C.length c2] 37 (0, 0)) ∧
    ((bestTo a b l k).A.length ≤ c0 ∧ Kd.str.C M w A0 (bestTo a b l k).A) ∧ ((bestTo a b l k).B.length ≤ c1 ∧ Kd.str.C M w A1 (bestTo a b l k).B) ∧ ((bestTo a b l k).C.length ≤ c2 ∧ Kd.str.C M w A2 (bestTo a b l k).C))) (fun v13 _ => l.length - (intOf v13).toNat)
  case atStart => exact ⟨⟨0, none, none, none, 0, 0, 0, by omega, rfl, (Ext.refl _).alloc _, heap_new rfl, ⟨Nat.le_refl _, Kd.C.nil ..⟩, ⟨Nat.le_refl _, Kd.C.nil ..⟩, ⟨Nat.le_refl _, Kd.C.nil ..⟩⟩⟩
  case round =>
    obtain ⟨k, A0, A1, A2, c0, c1, c2, hk, rfl, hX, hg, ⟨h0, g0⟩, ⟨h1, g1⟩, ⟨h2, g2⟩⟩ := hrel.out
    have HX := Sh.mk hX
    have hsz : w.heap.size < wr.heap.size := (Array.getElem?_eq_some_iff.1 hg).1
    clear hX hrel
    by_cases hlt : k < l.length
    · obtain ⟨ad, A0', c0', A1', c1', A2', c2', rfl, hmad, hc0, hc1, hc2, ⟨hl0, hg0⟩, ⟨hl1, hg1⟩, ⟨hl2, hg2⟩⟩ := at_Joint HL.out k hlt
      have hd0 := HX.out.cell hc0
      have hd1 := HX.out.cell hc1
      have hd2 := HX.out.cell hc2
      have HS := Sh.mk (bestTo_succ a b l k hlt)
      have hgc0 : wr.cell? ⟨w.heap.size, 0, none⟩ = some (.slice A0 (bestTo a b l k).A.length c0) := cell_of_row wr _ 0 _ _ _ hg
      have hgc1 : wr.cell? ⟨w.heap.size, 1, none⟩ = some (.slice A1 (bestTo a b l k).B.length c1) := cell_of_row wr _ 1 _ _ _ hg
      have hgc2 : wr.cell? ⟨w.heap.size, 2, none⟩ = some (.slice A2 (bestTo a b l k).C.length c2) := cell_of_row wr _ 2 _ _ _ hg
      have hfr : wr.frozen? ⟨w.heap.size, 0, none⟩ = false ∧ wr.frozen? ⟨w.heap.size, 1, none⟩ = false ∧ wr.frozen? ⟨w.heap.size, 2, none⟩ = false := by simp [World.frozen?, hg]
      obtain ⟨hf0, hf1, hf2⟩ := hfr
      have HG := Sh.mk (And.intro hg (And.intro (And.intro h0 g0) (And.intro (And.intro h1 g1) (And.intro h2 g2))))
      have hgA := g0.1
      have hgB := g1.1
      have hjA := hg0.1
      have hjB := hg1.1
      have HJ := Sh.mk (And.intro (And.intro hl0 hg0) (And.intro (And.intro hl1 hg1) (And.intro hl2 hg2)))
      clear hc0 hc1 hc2 hg h0 g0 h1 g1 h2 g2 hl0 hg0 hl1 hg1 hl2 hg2 hmad
      obtain ⟨q, hq⟩ : ∃ q, q = bestTo a b l k := ⟨_, rfl⟩
      obtain ⟨j, hj⟩ : ∃ j, j = l[k] := ⟨_, rfl⟩
      rw [← hq] at hgc0 hgc1 hgc2 hgA hgB
      rw [← hj] at hd0 hd1 hd2 hjA hjB
      have HQ := Sh.mk hq
      have HJq := Sh.mk hj
      clear hq hj
      by_cases hle : j.A.length ≤ a.length
      · obtain ⟨d, hd⟩ : ∃ d, d = a.length - j.A.length := ⟨_, rfl⟩
        have hw1 : IntKind.i64.wrap ((a.length : Int) - j.A.length) = (d : Int) := by rw [IntKind.wrap_i64]; omega
        have hdec : decide (j.A.length ≤ a.length) = true := by simpa using hle
        have hw2 : (d : Int) ≤ (a.length : Int) := by omega
        have hw3 : (a.length : Int) ≤ (ca : Int) := by omega
        have hcut := HA.out.cut d ca (by omega) hca
        have HD := Sh.mk hd
        obtain ⟨be, hbe⟩ : ∃ be, be = decide (a.drop d = j.A) := ⟨_, rfl⟩
        have HBE := Sh.mk (show endsB a j.A = be by unfold endsB; rw [hdec, Bool.true_and, ← hd, hbe])
        have HEq := Sh.mk (fun (A' : Option Addr) (c' : Nat) (W : World) (h : Kd.str.C M w A' (a.drop d)) (hx : Ext w W) =>
          (show Calls Try.prog 17 #[.slice A' (a.length - d) c', .slice A0' j.A.length c0'] W (fun e w' => e = .returned (.bool be) ∧ Dr W w') from by
            have hl1 : (a.drop d).length = a.length - d := by simp
            have := equal_str A' A0' c' c0' (a.drop d) j.A M M W (h.ext hx) (by rw [HJq.out]; exact HJ.out.1.2.ext hx)
            rw [hl1, ← hbe] at this
            exact this))
        have HBg := Sh.mk (fun (W : World) (hx : Ext w W) => begins_calls Ab A1' cb c1' b j.B M M W hcb (HB.out.ext hx) (by rw [HJq.out]; exact HJ.out.2.1.2.ext hx))
        clear hbe hle hd
        by_cases hcq : ca = d
        · rw [if_pos hcq] at hcut
          subst hcq
          rw [show a.length - ca = 0 by omega] at HEq
          have HEr := Sh.mk (fun W => HEq.out _ 0 W hcut)
          clear HEq hcut
          cases be with
          | false =>
            go_wp2_with fail
            go_quiet ((go_at_call 17; exact Calls.quiet_of (HEr.out _ ((HX.out.alloc _).drewN _))))
            go_wp2_with fail
            go_roundw
            case measure => simp [intOf]; omega
            case rel =>
              have hnx : bestTo a b l (k + 1) = bestTo a b l k := by rw [HS.out, ← HQ.out, ← HJq.out]; exact betterJ_no _ _ _ _ (by simp [HBE.out])
              refine ⟨⟨k + 1, A0, A1, A2, c0, c1, c2, by omega, by go_num, (HX.out.alloc _).drewN _, ?_⟩⟩
              rw [hnx]
              exact ⟨heap_old HG.out.1, HG.out.2⟩
          | true =>
            generalize hbb : beginsB b j.B = bb at *
            have HBB := Sh.mk hbb
            clear hbb
            cases bb with
            | false =>
              go_wp2_with fail
              go_quiet ((go_at_call 17; exact Calls.quiet_of (HEr.out _ ((HX.out.alloc _).drewN _))))
              go_wp2_with ((with_reducible refine (HBg.out _ ((HX.out.alloc _).drewN _)).mono ?_); rintro e w' ⟨rfl, ⟨m, rfl⟩⟩)
              go_roundw
              case measure => simp [intOf]; omega
              case rel =>
                have hnx : bestTo a b l (k + 1) = bestTo a b l k := by rw [HS.out, ← HQ.out, ← HJq.out]; exact betterJ_no _ _ _ _ (by simp [HBB.out])
                refine ⟨⟨k + 1, A0, A1, A2, c0, c1, c2, by omega, by go_num, ((HX.out.alloc _).drewN _), ?_⟩⟩
                rw [hnx]
                exact ⟨heap_old HG.out.1, HG.out.2⟩
            | true =>
              by_cases hlt2 : q.A.length + q.B.length < j.A.length + j.B.length
              · have HLT := Sh.mk hlt2
                have hlt3 : (q.A.length : Int) + q.B.length < (j.A.length : Int) + j.B.length := by omega
                clear hlt2
                go_wp2_with fail
                go_quiet ((go_at_call 17; exact Calls.quiet_of (HEr.out _ ((HX.out.alloc _).drewN _))))
                go_wp2_with ((with_reducible refine (HBg.out _ ((HX.out.alloc _).drewN _)).mono ?_); rintro e w' ⟨rfl, ⟨m, rfl⟩⟩)
                go_roundw
                case measure => simp [intOf]; omega
                case rel =>
                  have hnx : bestTo a b l (k + 1) = l[k] := by rw [HS.out, ← HQ.out, ← HJq.out]; exact betterJ_yes _ _ _ _ ⟨HBE.out, HBB.out, HLT.out⟩
                  refine ⟨⟨k + 1, A0', A1', A2', c0', c1', c2', by omega, by go_num, ((((HX.out.alloc _).drewN _).set _ _ (Nat.le_refl _)).set _ _ (Nat.le_refl _)).set _ _ (Nat.le_refl _), ?_⟩⟩
                  rw [hnx]
                  refine ⟨?_, HJ.out⟩
                  rw [← HJq.out]
                  exact heap_set (heap_set (heap_set (heap_old HG.out.1)))
              · have HLT := Sh.mk hlt2
                have hlt3 : ¬ (q.A.length : Int) + q.B.length < (j.A.length : Int) + j.B.length := by omega
                clear hlt2
                go_wp2_with fail
                go_quiet ((go_at_call 17; exact Calls.quiet_of (HEr.out _ ((HX.out.alloc _).drewN _))))
                go_wp2_with ((with_reducible refine (HBg.out _ ((HX.out.alloc _).drewN _)).mono ?_); rintro e w' ⟨rfl, ⟨m, rfl⟩⟩)
                go_roundw
                case measure => simp [intOf]; omega
                case rel =>
                  have hnx : bestTo a b l (k + 1) = bestTo a b l k := by rw [HS.out, ← HQ.out, ← HJq.out]; exact betterJ_no _ _ _ _ (fun h => HLT.out h.2.2)
                  refine ⟨⟨k + 1, A0, A1, A2, c0, c1, c2, by omega, by go_num, ((HX.out.alloc _).drewN _), ?_⟩⟩
                  rw [hnx]
                  exact ⟨heap_old HG.out.1, HG.out.2⟩
        · rw [if_neg hcq] at hcut
          replace hcut : Kd.str.C M w (Aa.map fun x => x.add d) (a.drop d) := by simpa [Kd.str] using hcut
          have HEr := Sh.mk (fun W => HEq.out _ (ca - d) W hcut)
          clear HEq hcut
          cases be with
          | false =>
            go_wp2_with fail
            go_quiet ((go_at_call 17; exact Calls.quiet_of (HEr.out _ ((HX.out.alloc _).drewN _))))
            go_wp2_with fail
            go_roundw
            case measure => simp [intOf]; omega
            case rel =>
              have hnx : bestTo a b l (k + 1) = bestTo a b l k := by rw [HS.out, ← HQ.out, ← HJq.out]; exact betterJ_no _ _ _ _ (by simp [HBE.out])
              refine ⟨⟨k + 1, A0, A1, A2, c0, c1, c2, by omega, by go_num, (HX.out.alloc _).drewN _, ?_⟩⟩
              rw [hnx]
              exact ⟨heap_old HG.out.1, HG.out.2⟩
          | true =>
            generalize hbb : beginsB b j.B = bb at *
            have HBB := Sh.mk hbb
            clear hbb
            cases bb with
            | false =>
              go_wp2_with fail
              go_quiet ((go_at_call 17; exact Calls.quiet_of (HEr.out _ ((HX.out.alloc _).drewN _))))
              go_wp2_with ((with_reducible refine (HBg.out _ ((HX.out.alloc _).drewN _)).mono ?_); rintro e w' ⟨rfl, ⟨m, rfl⟩⟩)
              go_roundw
              case measure => simp [intOf]; omega
              case rel =>
                have hnx : bestTo a b l (k + 1) = bestTo a b l k := by rw [HS.out, ← HQ.out, ← HJq.out]; exact betterJ_no _ _ _ _ (by simp [HBB.out])
                refine ⟨⟨k + 1, A0, A1, A2, c0, c1, c2, by omega, by go_num, ((HX.out.alloc _).drewN _), ?_⟩⟩
                rw [hnx]
                exact ⟨heap_old HG.out.1, HG.out.2⟩
            | true =>
              by_cases hlt2 : q.A.length + q.B.length < j.A.length + j.B.length
              · have HLT := Sh.mk hlt2
                have hlt3 : (q.A.length : Int) + q.B.length < (j.A.length : Int) + j.B.length := by omega
                clear hlt2
                go_wp2_with fail
                go_quiet ((go_at_call 17; exact Calls.quiet_of (HEr.out _ ((HX.out.alloc _).drewN _))))
                go_wp2_with ((with_reducible refine (HBg.out _ ((HX.out.alloc _).drewN _)).mono ?_); rintro e w' ⟨rfl, ⟨m, rfl⟩⟩)
                go_roundw
                case measure => simp [intOf]; omega
                case rel =>
                  have hnx : bestTo a b l (k + 1) = l[k] := by rw [HS.out, ← HQ.out, ← HJq.out]; exact betterJ_yes _ _ _ _ ⟨HBE.out, HBB.out, HLT.out⟩
                  refine ⟨⟨k + 1, A0', A1', A2', c0', c1', c2', by omega, by go_num, ((((HX.out.alloc _).drewN _).set _ _ (Nat.le_refl _)).set _ _ (Nat.le_refl _)).set _ _ (Nat.le_refl _), ?_⟩⟩
                  rw [hnx]
                  refine ⟨?_, HJ.out⟩
                  rw [← HJq.out]
                  exact heap_set (heap_set (heap_set (heap_old HG.out.1)))
              · have HLT := Sh.mk hlt2
                have hlt3 : ¬ (q.A.length : Int) + q.B.length < (j.A.length : Int) + j.B.length := by omega
                clear hlt2
                go_wp2_with fail
                go_quiet ((go_at_call 17; exact Calls.quiet_of (HEr.out _ ((HX.out.alloc _).drewN _))))
                go_wp2_with ((with_reducible refine (HBg.out _ ((HX.out.alloc _).drewN _)).mono ?_); rintro e w' ⟨rfl, ⟨m, rfl⟩⟩)
                go_roundw
                case measure => simp [intOf]; omega
                case rel =>
                  have hnx : bestTo a b l (k + 1) = bestTo a b l k := by rw [HS.out, ← HQ.out, ← HJq.out]; exact betterJ_no _ _ _ _ (fun h => HLT.out h.2.2)
                  refine ⟨⟨k + 1, A0, A1, A2, c0, c1, c2, by omega, by go_num, ((HX.out.alloc _).drewN _), ?_⟩⟩
                  rw [hnx]
                  exact ⟨heap_old HG.out.1, HG.out.2⟩
      · have hdec : decide (j.A.length ≤ a.length) = false := by simpa using hle
        have HBE := Sh.mk (show endsB a j.A = false by unfold endsB; rw [hdec, Bool.false_and])
        clear hle
        go_wp2_with fail
        go_quiet (fail)
        go_wp2_with fail
        go_roundw
        case measure => simp [intOf]; omega
        case rel =>
          have hnx : bestTo a b l (k + 1) = bestTo a b l k := by rw [HS.out, ← HQ.out, ← HJq.out]; exact betterJ_no _ _ _ _ (by simp [HBE.out])
          refine ⟨⟨k + 1, A0, A1, A2, c0, c1, c2, by omega, by go_num, (HX.out.alloc _).drewN _, ?_⟩⟩
          rw [hnx]
          exact ⟨heap_old HG.out.1, HG.out.2⟩
    · obtain ⟨q, hq⟩ : ∃ q, q = bestTo a b l k := ⟨_, rfl⟩
      have hok := bestTo_ok a b l k
      rw [← hq] at hg h0 g0 h1 g1 h2 g2 hok
      have hoA := hok.1
      have hoB := hok.2
      clear hok
      have HQ := Sh.mk (show joinedL l a b = a.take (a.length - q.A.length) ++ (q.C ++ b.drop q.B.length) by unfold joinedL bestJ; rw [show l.length = k by omega, ← hq])
      clear hq
      have hc0 : wr.cell? ⟨w.heap.size, 0, none⟩ = some (.slice A0 q.A.length c0) := cell_of_row wr _ 0 _ _ _ hg
      have hc1 : wr.cell? ⟨w.heap.size, 1, none⟩ = some (.slice A1 q.B.length c1) := cell_of_row wr _ 1 _ _ _ hg
      have hc2 : wr.cell? ⟨w.heap.size, 2, none⟩ = some (.slice A2 q.C.length c2) := cell_of_row wr _ 2 _ _ _ hg
      have HG := Sh.mk (And.intro (And.intro h0 g0) (And.intro (And.intro h1 g1) (And.intro h2 g2)))
      have HH := Sh.mk hg
      clear hg h0 g0 h1 g1 h2 g2
      obtain ⟨d1, hd1⟩ : ∃ d1, d1 = a.length - q.A.length := ⟨_, rfl⟩
      have hw1 : IntKind.i64.wrap ((a.length : Int) - q.A.length) = (d1 : Int) := by rw [IntKind.wrap_i64]; omega
      have hw2 : (d1 : Int) ≤ (ca : Int) := by omega
      have hw3 : (q.B.length : Int) ≤ (b.length : Int) := by omega
      have hw4 : (b.length : Int) ≤ (cb : Int) := by omega
      have HCc := Sh.mk (fun (A3 : Option Addr) (c3 : Nat) (hc3 : b.length - q.B.length ≤ c3) (h3 : Kd.str.C M w A3 (b.drop q.B.length)) (blk : Nat) (W : World) (hx : Ext w W) (hbk : w.heap.size ≤ blk)
          (hbl : W.heap[blk]? = some (.cells #[.slice Aa d1 ca, .slice A2 q.C.length c2, .slice A3 (b.length - q.B.length) c3] 23 (0, 0))) =>
        (show Calls Try.prog 20 #[.slice (some ⟨blk, 0, none⟩) 3 3] W _ from concat_str (some ⟨blk, 0, none⟩) 3 [a.take d1, q.C, b.drop q.B.length] M W (fun k hk => Nat.lt_of_lt_of_le (hM k hk) hx.size)
          (Kd.C_block hbl (fun hmk => by have := hM _ hmk; omega) (by simp) (.cons (show (Kd.sl Kd.str).K M W (a.take d1) [.slice Aa d1 ca] by
              have hl1 : (a.take d1).length = d1 := by simp; omega
              have := Kd.sl_K (d := Kd.str) (c := ca) (by omega) ((HA.out.take d1).ext hx)
              rwa [hl1] at this) (.cons (Kd.sl_K HG.out.2.2.1 (HG.out.2.2.2.ext hx)) (.cons (show (Kd.sl Kd.str).K M W (b.drop q.B.length) [.slice A3 (b.length - q.B.length) c3] by
              have hl1 : (b.drop q.B.length).length = b.length - q.B.length := by simp
              have := Kd.sl_K (d := Kd.str) (c := c3) (by omega) (h3.ext hx)
              rwa [hl1] at this) (.nil ..)))))
          (by rw [show [a.take d1, q.C, b.drop q.B.length].flatten = joinedL l a b by rw [HQ.out, hd1]; simp]; exact hn)))
      have hcut := HB.out.cut q.B.length cb hoB hcb
      have HD := Sh.mk hd1
      clear hd1
      by_cases hcq : cb = q.B.length
      · rw [if_pos hcq] at hcut
        have HCd := Sh.mk (HCc.out Ab 0 (by omega) hcut)
        clear HCc hcut
        go_wp2_with fail
        go_still_tail 15, (by kernel_rfl)
        change wpList _ _ _ _ _ wr.drew
        go_wp2_with ((with_reducible refine (HCd.out _ _ (((HX.out.alloc _).drew)) (by omega) (heap_new_drew rfl)).mono ?_); intro e w' h; obtain ⟨v, rfl, h1, h2⟩ := h.out; have HO := Sh.mk h1; have HZ := Sh.mk h2; clear h1 h2 h)
        go_ret
        refine ⟨_, rfl, ?_, ((HX.out.alloc _).drew).trans HZ.out⟩
        have := HO.out.low ((HX.out.alloc _).drew).size
        rwa [show [a.take d1, q.C, b.drop q.B.length].flatten = joinedL l a b by rw [HQ.out, HD.out]; simp] at this
      · rw [if_neg hcq] at hcut
        replace hcut : Kd.str.C M w (Ab.map fun x => x.add q.B.length) (b.drop q.B.length) := by simpa [Kd.str] using hcut
        have HCd := Sh.mk (HCc.out (Ab.map fun x => x.add q.B.length) (cb - q.B.length) (by omega) hcut)
        clear HCc hcut
        go_wp2_with fail
        go_still_tail 15, (by kernel_rfl)
        change wpList _ _ _ _ _ wr.drew
        go_wp2_with ((with_reducible refine (HCd.out _ _ (((HX.out.alloc _).drew)) (by omega) (heap_new_drew rfl)).mono ?_); intro e w' h; obtain ⟨v, rfl, h1, h2⟩ := h.out; have HO := Sh.mk h1; have HZ := Sh.mk h2; clear h1 h2 h)
        go_ret
        refine ⟨_, rfl, ?_, ((HX.out.alloc _).drew).trans HZ.out⟩
        have := HO.out.low ((HX.out.alloc _).drew).size
        rwa [show [a.take d1, q.C, b.drop q.B.length].flatten = joinedL l a b by rw [HQ.out, HD.out]; simp] at this
end Go.Proofs.Ythfonlnlopmonaa

/- Layer 13: what the joints' functions answer: words, first, joints, begins, held. -/
import Derived.Test.YthfonlnlopmonaaHd
import Derived.StillTailTactics
set_option linter.unusedVariables false
set_option linter.unusedSimpArgs false
namespace Go.Proofs.Ythfonlnlopmonaa
open Go.RowKit

/-- what is wrong with joints and two words -/
def sandhiE (l : List Joint) (a b : List ByteArray) : Int := firstNZ [vJoints l, vWords [a, b]]
def sandhi (l : List Joint) (a b : List ByteArray) : List ByteArray × Int := if sandhiE l a b = 0 then (if (joinedL l a b).length ≤ 60 then (joinedL l a b, 0) else ([], 3)) else ([], sandhiE l a b)
set_option maxHeartbeats 4000000 in
theorem sandhi_calls (Al : Option Addr) (cl : Nat) (l : List Joint) (Aa Ab : Option Addr) (ca cb : Nat) (a b : List ByteArray) (M : Nat → Prop) (w : World) (hM : ∀ k, M k → k < w.heap.size) (hl : kJoint.C M w Al l) (hca : a.length ≤ ca) (ha : Kd.str.C M w Aa a) (hcb : b.length ≤ cb) (hb : Kd.str.C M w Ab b)
    (hn : (joinedL l a b).length * 16 ≤ 140737488355328) :
    Calls Try.prog 7 #[.slice Al l.length cl, .slice Aa a.length ca, .slice Ab b.length cb] w fun e w' => Sh (∃ v, e = .returned (.tuple #[v, .int .i64 (sandhi l a b).2]) ∧ Kd.str.IsSl M w' (sandhi l a b).1 v ∧ Ext w w') := by
  have HJ := Sh.mk (joints_calls Al cl l M w hl)
  have HW := Sh.mk (fun (b1 : Nat) (W : World) (hx : Ext w W) (hb1 : W.heap[b1]? = some (.cells #[.slice Aa a.length ca, .slice Ab b.length cb] 23 (0, 0))) =>
          (show Calls Try.prog 13 #[.slice (some ⟨b1, 0, none⟩) 2 2] W _ from words_calls (some ⟨b1, 0, none⟩) 2 [a, b] none' W
            (Kd.C_block hb1 (fun x => x) (by simp) (.cons (Kd.sl_K hca ((ha.weak (fun _ _ x => x.elim)).ext hx)) (.cons (Kd.sl_K hcb ((hb.weak (fun _ _ x => x.elim)).ext hx)) (.nil ..))))))
  have HF := Sh.mk (fun (x y : Int) (b1 : Nat) (W : World) (hb1 : W.heap[b1]? = some (.cells #[.int .i64 x, .int .i64 y] 27 (0, 0))) =>
          (show Calls Try.prog 11 #[.slice (some ⟨b1, 0, none⟩) 2 2] W _ from first_calls (some ⟨b1, 0, none⟩) 2 [x, y] none' W
            (Kd.C_block hb1 (fun x => x) (by simp) (.cons (cs := [.int .i64 x]) rfl (.cons (cs := [.int .i64 y]) rfl (.nil ..))))))
  have HD := Sh.mk (fun (W : World) (hx : Ext w W) => joined_calls Al cl l Aa Ab ca cb a b M W (fun k hk => Nat.lt_of_lt_of_le (hM k hk) hx.size) (hl.ext hx) hca (ha.ext hx) hcb (hb.ext hx) hn)
  clear hl ha hb
  have HE := Sh.mk (show sandhiE l a b = firstNZ [vJoints l, vWords [a, b]] from rfl)
  have HS := Sh.mk (show sandhi l a b = if sandhiE l a b = 0 then (if (joinedL l a b).length ≤ 60 then (joinedL l a b, 0) else ([], 3)) else ([], sandhiE l a b) from rfl)
  generalize vJoints l = j at *
  generalize vWords [a, b] = v at *
  generalize joinedL l a b = r at *
  have HF2 := Sh.mk (HF.out j v)
  clear HF
  generalize he : firstNZ [j, v] = er at *
  rw [HE.out] at HS
  clear he HE
  by_cases h0 : er = 0
  · have hb0 : (er == 0) = true := by simpa using h0
    rw [if_pos h0] at HS
    clear h0
    by_cases hlen : r.length ≤ 60
    · rw [if_pos hlen] at HS
      go_enter Try.func7, Try.ntmps7
      go_wp2_with fail
      (with_reducible refine (HJ.out).mono ?_)
      rintro e w1 ⟨rfl, h1⟩
      have X1 := Sh.mk h1
      clear h1
      go_wp2_with fail
      (with_reducible refine (HW.out _ _ (X1.out.alloc _) (heap_new rfl)).mono ?_)
      rintro e w2 ⟨rfl, h1⟩
      have X2 := Sh.mk ((X1.out.alloc _).trans h1.ext)
      clear h1
      go_wp2_with fail
      (with_reducible refine (HF2.out _ _ (heap_new rfl)).mono ?_)
      rintro e w3 ⟨rfl, h1⟩
      have X3 := Sh.mk ((X2.out.alloc _).trans h1.ext)
      clear h1
      go_wp2_with fail
      (with_reducible refine (HD.out _ X3.out).mono ?_)
      intro e w4 h
      obtain ⟨v4, rfl, h1, h2⟩ := h.out
      obtain ⟨A4, c4, rfl, h3, h4⟩ := h1.isSl
      have X4 := Sh.mk (And.intro (X3.out.trans h2) (And.intro h3 h4))
      clear h h1 h2 h3 h4
      go_wp2_with ((with_reducible refine (held_yes A4 r.length c4 _ hlen).mono ?_); rintro e w' ⟨rfl, rfl⟩)
      go_ret2
      refine ⟨.slice A4 r.length c4, by rw [HS.out]; rfl, ?_, X4.out.1⟩
      rw [HS.out]
      exact ⟨A4, c4, rfl, X4.out.2⟩
    · rw [if_neg hlen] at HS
      go_enter Try.func7, Try.ntmps7
      go_wp2_with fail
      (with_reducible refine (HJ.out).mono ?_)
      rintro e w1 ⟨rfl, h1⟩
      have X1 := Sh.mk h1
      clear h1
      go_wp2_with fail
      (with_reducible refine (HW.out _ _ (X1.out.alloc _) (heap_new rfl)).mono ?_)
      rintro e w2 ⟨rfl, h1⟩
      have X2 := Sh.mk ((X1.out.alloc _).trans h1.ext)
      clear h1
      go_wp2_with fail
      (with_reducible refine (HF2.out _ _ (heap_new rfl)).mono ?_)
      rintro e w3 ⟨rfl, h1⟩
      have X3 := Sh.mk ((X2.out.alloc _).trans h1.ext)
      clear h1
      go_wp2_with fail
      (with_reducible refine (HD.out _ X3.out).mono ?_)
      intro e w4 h
      obtain ⟨v4, rfl, h1, h2⟩ := h.out
      obtain ⟨A4, c4, rfl, h3, h4⟩ := h1.isSl
      have X4 := Sh.mk (And.intro (X3.out.trans h2) (And.intro h3 h4))
      have hr := h4.1
      clear h h1 h2 h3 h4
      go_wp2_with ((with_reducible refine (held_no A4 r.length c4 _ hlen hr).mono ?_); rintro e w' ⟨rfl, rfl⟩)
      go_ret2
      refine ⟨_, by rw [HS.out]; rfl, ?_, X4.out.1⟩
      rw [HS.out]
      exact Kd.IsSl.nil ..
  · have hb0 : (er == 0) = false := by simpa using h0
    rw [if_neg h0] at HS
    clear h0
    go_enter Try.func7, Try.ntmps7
    go_wp2_with fail
    (with_reducible refine (HJ.out).mono ?_)
    rintro e w1 ⟨rfl, h1⟩
    have X1 := Sh.mk h1
    clear h1
    go_wp2_with fail
    (with_reducible refine (HW.out _ _ (X1.out.alloc _) (heap_new rfl)).mono ?_)
    rintro e w2 ⟨rfl, h1⟩
    have X2 := Sh.mk ((X1.out.alloc _).trans h1.ext)
    clear h1
    go_wp2_with fail
    (with_reducible refine (HF2.out _ _ (heap_new rfl)).mono ?_)
    rintro e w3 ⟨rfl, h1⟩
    have X3 := Sh.mk ((X2.out.alloc _).trans h1.ext)
    clear h1
    go_wp2_with fail
    go_ret2
    refine ⟨_, by rw [HS.out]; rfl, ?_, X3.out⟩
    rw [HS.out]
    exact Kd.IsSl.nil ..
end Go.Proofs.Ythfonlnlopmonaa

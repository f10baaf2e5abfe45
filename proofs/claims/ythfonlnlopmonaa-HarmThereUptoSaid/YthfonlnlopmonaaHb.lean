/- Layer 13: what the joints' functions answer: words, first, joints, begins, held. -/
import Derived.Test.YthfonlnlopmonaaHa
set_option linter.unusedVariables false
set_option linter.unusedSimpArgs false
namespace Go.Proofs.Ythfonlnlopmonaa
open Go.RowKit

/-- the first that is not 0 -/
def firstNZ : List Int → Int
  | [] => 0
  | x :: l => if x = 0 then firstNZ l else x
theorem firstNZ_drop (l : List Int) (k : Nat) (h : k < l.length) : firstNZ (l.drop k) = if l[k] = 0 then firstNZ (l.drop (k + 1)) else l[k] := by
  rw [List.drop_eq_getElem_cons h]; rfl
theorem firstNZ_end (l : List Int) (k : Nat) (h : ¬ k < l.length) : firstNZ (l.drop k) = 0 := by
  rw [List.drop_of_length_le (by omega)]; rfl
def fNZ (l : List Int) (k : Nat) : Int := firstNZ (l.drop k)
/-- the first error of words -/
def vWords (l : List (List ByteArray)) : Int := firstNZ (l.map vWord)

set_option maxHeartbeats 1000000 in
theorem words_calls (A : Option Addr) (c : Nat) (l : List (List ByteArray)) (M : Nat → Prop) (w : World) (hr : (Kd.sl Kd.str).C M w A l) :
    Calls Try.prog 13 #[.slice A l.length c] w fun e w' => e = .returned (.int .i64 (vWords l)) ∧ Dr w w' := by
  have HR := Sh.mk hr
  have hm := hr.1
  have HV := Sh.mk (show vWords l = fNZ (l.map vWord) 0 from rfl)
  clear hr
  go_enter Try.func13, Try.ntmps13
  go_wp2_with fail
  go_loopw [8] (fun v8 wr => ∃ k : Nat, k ≤ l.length ∧ v8 = .int .i64 k ∧ Sh (vWords l = fNZ (l.map vWord) k) ∧ Sh (Dr w wr)) (fun v8 _ => l.length - (intOf v8).toNat)
  case atStart => exact ⟨0, by omega, rfl, HV, ⟨Dr.refl _⟩⟩
  case round =>
    clear HV
    obtain ⟨k, hk, rfl, H, HW⟩ := hrel
    by_cases hlt : k < l.length
    · obtain ⟨ad, A', c', rfl, hc, hcl, hC⟩ := Kd.at_sl HR.out k hlt
      have HX := Sh.mk HW.out.ext
      have hd := HX.out.cell hc
      have HE := Sh.mk (firstNZ_drop (l.map vWord) k (by simpa using hlt))
      have HG := Sh.mk (show (l.map vWord)[k]'(by simpa using hlt) = vWord l[k] by simp)
      have HC := Sh.mk (validateWord_calls A' c' l[k] M wr (hC.ext HX.out))
      clear hc hC
      generalize hx : vWord l[k] = x at *
      clear hx
      by_cases hx0 : x = 0
      · have HX0 := Sh.mk hx0
        have hxb : (x == 0) = true := by simpa using hx0
        clear hx0
        go_wp2_with ((with_reducible refine (HC.out).mono ?_); rintro e w' ⟨rfl, h2⟩; have H2 := Sh.mk h2; clear h2)
        go_roundw
        case rel => exact ⟨k + 1, by omega, by go_num, ⟨by rw [H.out]; unfold fNZ; rw [HE.out, HG.out, if_pos HX0.out]⟩, ⟨HW.out.trans H2.out⟩⟩
        case measure => simp [intOf]; omega
      · have HX0 := Sh.mk hx0
        have hxb : (x == 0) = false := by simpa using hx0
        clear hx0
        go_wp2_with ((with_reducible refine (HC.out).mono ?_); rintro e w' ⟨rfl, h2⟩; have H2 := Sh.mk h2; clear h2)
        go_ret
        exact ⟨by rw [H.out]; unfold fNZ; rw [HE.out, HG.out, if_neg HX0.out]; rfl, HW.out.trans H2.out⟩
    · have HE := Sh.mk (firstNZ_end (l.map vWord) k (by simpa using hlt))
      go_wp2_with fail
      go_ret
      exact ⟨by rw [H.out]; unfold fNZ; rw [HE.out]; rfl, HW.out⟩

set_option maxHeartbeats 1000000 in
theorem first_calls (A : Option Addr) (c : Nat) (l : List Int) (M : Nat → Prop) (w : World) (hr : (Kd.int .i64).C M w A l) :
    Calls Try.prog 11 #[.slice A l.length c] w fun e w' => e = .returned (.int .i64 (firstNZ l)) ∧ Dr w w' := by
  have HR := Sh.mk hr
  have hm := hr.1
  have HV := Sh.mk (show firstNZ l = fNZ l 0 from rfl)
  clear hr
  go_enter Try.func11, Try.ntmps11
  go_wp2_with fail
  go_loop [7] (fun v7 => ∃ k : Nat, k ≤ l.length ∧ v7 = .int .i64 k ∧ Sh (firstNZ l = fNZ l k)) (fun v7 => l.length - (intOf v7).toNat)
  case atStart => exact ⟨0, by omega, rfl, HV⟩
  case round =>
    clear HV
    obtain ⟨k, hk, rfl, H⟩ := hrel
    by_cases hlt : k < l.length
    · obtain ⟨ad, rfl, hc⟩ := Kd.at_int HR.out k hlt
      have HE := Sh.mk (firstNZ_drop l k hlt)
      generalize l[k] = x at *
      by_cases hx0 : x = 0
      · have HX0 := Sh.mk hx0
        have hxb : (x == 0) = true := by simpa using hx0
        clear hx0
        go_wp2_with fail
        go_round
        case rel => exact ⟨k + 1, by omega, by go_num, ⟨by rw [H.out]; unfold fNZ; rw [HE.out, if_pos HX0.out]⟩⟩
        case measure => simp [intOf]; omega
      · have HX0 := Sh.mk hx0
        have hxb : (x == 0) = false := by simpa using hx0
        clear hx0
        go_wp2_with fail
        go_ret
        exact ⟨by rw [H.out]; unfold fNZ; rw [HE.out, if_neg HX0.out]; rfl, Dr.refl _⟩
    · have HE := Sh.mk (firstNZ_end l k hlt)
      go_wp2_with fail
      go_ret
      exact ⟨by rw [H.out]; unfold fNZ; rw [HE.out]; rfl, Dr.refl _⟩

/-- a list begins with another one -/
def beginsB (a x : List ByteArray) : Bool := decide (x.length ≤ a.length) && decide (a.take x.length = x)
set_option maxHeartbeats 1000000 in
theorem begins_calls (A0 A1 : Option Addr) (c0 c1 : Nat) (l0 l1 : List ByteArray) (M0 M1 : Nat → Prop) (w : World) (hl0 : l0.length ≤ c0) (h0 : Kd.str.C M0 w A0 l0) (h1 : Kd.str.C M1 w A1 l1) :
    Calls Try.prog 19 #[.slice A0 l0.length c0, .slice A1 l1.length c1] w fun e w' => e = .returned (.bool (beginsB l0 l1)) ∧ Dr w w' := by
  have hm0 := h0.1
  have hm1 := h1.1
  by_cases hle : l1.length ≤ l0.length
  · have HC := Sh.mk (equal_str A0 A1 c0 c1 (l0.take l1.length) l1 M0 M1 w (h0.take _) h1)
    have HL := Sh.mk (show (l0.take l1.length).length = l1.length by simp; omega)
    have HB := Sh.mk (show beginsB l0 l1 = decide (l0.take l1.length = l1) by unfold beginsB; simp [hle])
    rw [HL.out] at HC
    have hc : l1.length ≤ c0 := by omega
    clear h0 h1
    generalize hb : decide (l0.take l1.length = l1) = b at *
    clear hb
    go_enter Try.func19, Try.ntmps19
    go_wp2_with ((with_reducible refine (HC.out).mono ?_); rintro e w' ⟨rfl, h2⟩; have H2 := Sh.mk h2; clear h2)
    go_ret
    exact ⟨by rw [HB.out]; rfl, H2.out⟩
  · have HB := Sh.mk (show beginsB l0 l1 = false by unfold beginsB; simp [hle])
    clear h0 h1
    go_enter Try.func19, Try.ntmps19
    go_wp2_with fail
    go_ret
    exact ⟨by rw [HB.out]; rfl, Dr.refl _⟩

set_option maxHeartbeats 1000000 in
theorem held_yes (A : Option Addr) (n c : Nat) (w : World) (h : n ≤ 60) :
    Calls Try.prog 14 #[.slice A n c] w fun e w' => e = .returned (.tuple #[.slice A n c, .int .i64 0]) ∧ w' = w := by
  go_enter Try.func14, Try.ntmps14
  go_wp2_with fail
  go_ret2
  exact ⟨rfl, rfl⟩
set_option maxHeartbeats 1000000 in
theorem held_no (A : Option Addr) (n c : Nat) (w : World) (h : ¬ n ≤ 60) (hn : n ≤ 140737488355328) :
    Calls Try.prog 14 #[.slice A n c] w fun e w' => e = .returned (.tuple #[.slice none 0 0, .int .i64 3]) ∧ w' = w := by
  go_enter Try.func14, Try.ntmps14
  go_wp2_with fail
  go_ret2
  exact ⟨rfl, rfl⟩
end Go.Proofs.Ythfonlnlopmonaa

/- How texts and words are compared: cmp.Compare, slices.Compare, syms.Compare; each is a linear order. -/
import Derived.Test.YthfonlnlopmonaaSyms
import Derived.WalkLawsBesides
set_option linter.unusedVariables false
set_option linter.unusedSimpArgs false
namespace Go.Proofs.Ythfonlnlopmonaa
open Go.RowKit

/-- a comparison that is a linear order -/
structure Lin {α : Type} (c : α → α → Int) : Prop where
  eq0 : ∀ x y, c x y = 0 ↔ x = y
  anti : ∀ x y, c x y < 0 ↔ 0 < c y x
  trans : ∀ x y z, c x y < 0 → c y z < 0 → c x z < 0
def thenC (a b : Int) : Int := if a ≠ 0 then a else b

def cmpI (x y : Int) : Int := if x < y then -1 else if y < x then 1 else 0
theorem cmpI_lin : Lin cmpI where
  eq0 x y := by unfold cmpI; split; omega; split <;> omega
  anti x y := by unfold cmpI; split <;> split <;> (try split) <;> omega
  trans x y z := by unfold cmpI; split <;> (try split) <;> (try split) <;> (try split) <;> (try split) <;> omega

theorem bl_irrefl : ∀ x : List UInt8, Op.bytesLess x x = false
  | [] => rfl
  | a :: x => by unfold Op.bytesLess; simp [bl_irrefl x]
theorem bl_trans : ∀ x y z : List UInt8, Op.bytesLess x y = true → Op.bytesLess y z = true → Op.bytesLess x z = true
  | _, [], _, h, _ => by cases ‹List UInt8› <;> simp [Op.bytesLess] at h
  | [], b :: y, [], _, h2 => by simp [Op.bytesLess] at h2
  | [], b :: y, c :: z, _, _ => rfl
  | a :: x, b :: y, [], _, h2 => by simp [Op.bytesLess] at h2
  | a :: x, b :: y, c :: z, h1, h2 => by
    simp only [Op.bytesLess, Bool.or_eq_true, decide_eq_true_eq, Bool.and_eq_true, beq_iff_eq] at *
    rcases h1 with h1 | ⟨rfl, h1⟩
    · rcases h2 with h2 | ⟨rfl, h2⟩
      · exact .inl (UInt8.lt_trans h1 h2)
      · exact .inl h1
    · rcases h2 with h2 | ⟨rfl, h2⟩
      · exact .inl h2
      · exact .inr ⟨rfl, bl_trans x y z h1 h2⟩
theorem bl_tri : ∀ x y : List UInt8, Op.bytesLess x y = true ∨ x = y ∨ Op.bytesLess y x = true
  | [], [] => .inr (.inl rfl)
  | [], _ :: _ => .inl rfl
  | _ :: _, [] => .inr (.inr rfl)
  | a :: x, b :: y => by
    simp only [Op.bytesLess, Bool.or_eq_true, decide_eq_true_eq, Bool.and_eq_true, beq_iff_eq, List.cons.injEq]
    by_cases h : a = b
    · subst h
      rcases bl_tri x y with h | h | h
      · exact .inl (.inr ⟨rfl, h⟩)
      · exact .inr (.inl ⟨rfl, h⟩)
      · exact .inr (.inr (.inr ⟨rfl, h⟩))
    · rcases UInt8.lt_or_lt_of_ne h with h | h
      · exact .inl (.inl h)
      · exact .inr (.inr (.inl h))
def cmpS (x y : ByteArray) : Int := if Op.bytesLess x.toList y.toList = true then -1 else if x.toList = y.toList then 0 else 1
theorem cmpS_lin : Lin cmpS where
  eq0 x y := by
    unfold cmpS
    split
    · rename_i h
      refine ⟨fun e => absurd e (by omega), fun e => ?_⟩
      subst e; rw [bl_irrefl] at h; cases h
    · split
      · rename_i h; exact ⟨fun _ => bytes_toList h, fun _ => rfl⟩
      · rename_i h; exact ⟨fun e => absurd e (by omega), fun e => absurd (by rw [e]) h⟩
  anti x y := by
    unfold cmpS
    rcases bl_tri x.toList y.toList with h | h | h
    · have h2 : Op.bytesLess y.toList x.toList = false := by
        cases e : Op.bytesLess y.toList x.toList with
        | false => rfl
        | true => have := bl_trans _ _ _ h e; rw [bl_irrefl] at this; cases this
      have h3 : ¬ y.toList = x.toList := fun e => by rw [e, bl_irrefl] at h; cases h
      simp [h, h2, h3]
    · simp [h, bl_irrefl]
    · have h2 : Op.bytesLess x.toList y.toList = false := by
        cases e : Op.bytesLess x.toList y.toList with
        | false => rfl
        | true => have := bl_trans _ _ _ h e; rw [bl_irrefl] at this; cases this
      have h3 : ¬ x.toList = y.toList := fun e => by rw [e, bl_irrefl] at h; cases h
      simp [h, h2, h3]
  trans x y z h1 h2 := by
    unfold cmpS at *
    have a : Op.bytesLess x.toList y.toList = true := by
      cases e : Op.bytesLess x.toList y.toList with
      | true => rfl
      | false => rw [e] at h1; simp at h1; split at h1 <;> omega
    have b : Op.bytesLess y.toList z.toList = true := by
      cases e : Op.bytesLess y.toList z.toList with
      | true => rfl
      | false => rw [e] at h2; simp at h2; split at h2 <;> omega
    rw [bl_trans _ _ _ a b]
    simp
/-- lists, element by element; a shorter one that begins the other is ahead -/
def cmpL : List ByteArray → List ByteArray → Int
  | [], [] => 0
  | [], _ :: _ => -1
  | _ :: _, [] => 1
  | x :: a, y :: b => if cmpS x y = 0 then cmpL a b else cmpS x y
theorem cmpL_lin : Lin cmpL where
  eq0 := by
    intro a
    induction a with
    | nil => intro b; cases b <;> simp [cmpL]
    | cons x a ih =>
      intro b
      cases b with
      | nil => simp [cmpL]
      | cons y b =>
        unfold cmpL
        by_cases h : cmpS x y = 0
        · rw [if_pos h, ih b, (cmpS_lin.eq0 x y).1 h]; simp
        · rw [if_neg h]
          exact ⟨fun e => absurd e h, fun e => by injection e with e1 e2; exact absurd ((cmpS_lin.eq0 x y).2 e1) h⟩
  anti := by
    intro a
    induction a with
    | nil => intro b; cases b <;> simp [cmpL]
    | cons x a ih =>
      intro b
      cases b with
      | nil => simp [cmpL]
      | cons y b =>
        unfold cmpL
        by_cases h : cmpS x y = 0
        · have h2 : cmpS y x = 0 := (cmpS_lin.eq0 y x).2 ((cmpS_lin.eq0 x y).1 h).symm
          rw [if_pos h, if_pos h2]; exact ih b
        · have h2 : ¬ cmpS y x = 0 := fun e => h ((cmpS_lin.eq0 x y).2 ((cmpS_lin.eq0 y x).1 e).symm)
          rw [if_neg h, if_neg h2]; exact cmpS_lin.anti x y
  trans := by
    intro a
    induction a with
    | nil => intro b c; cases b <;> cases c <;> simp [cmpL]
    | cons x a ih =>
      intro b c
      cases b with
      | nil => simp [cmpL]
      | cons y b =>
        cases c with
        | nil => intro _ h; simp [cmpL] at h
        | cons z c =>
          unfold cmpL
          by_cases h : cmpS x y = 0
          · have e := (cmpS_lin.eq0 x y).1 h
            subst e
            rw [if_pos h]
            by_cases h2 : cmpS x z = 0
            · rw [if_pos h2, if_pos h2]; exact ih b c
            · rw [if_neg h2, if_neg h2]; exact fun _ h => h
          · rw [if_neg h]
            by_cases h2 : cmpS y z = 0
            · have e := (cmpS_lin.eq0 y z).1 h2
              subst e
              rw [if_pos h2, if_neg h]; exact fun h _ => h
            · rw [if_neg h2]
              intro h3 h4
              have h5 := cmpS_lin.trans x y z h3 h4
              rw [if_neg (by omega)]; exact h5
theorem thenC_lin {α β : Type} {c : α → α → Int} {d : β → β → Int} (hc : Lin c) (hd : Lin d) : Lin (fun x y : α × β => thenC (c x.1 y.1) (d x.2 y.2)) where
  eq0 x y := by
    unfold thenC
    by_cases h : c x.1 y.1 = 0
    · rw [if_neg (by simpa using h), hd.eq0]
      have := (hc.eq0 _ _).1 h
      exact ⟨fun e => Prod.ext this e, fun e => by rw [e]⟩
    · rw [if_pos h]; exact ⟨fun e => absurd e h, fun e => absurd ((hc.eq0 _ _).2 (by rw [e])) h⟩
  anti x y := by
    unfold thenC
    by_cases h : c x.1 y.1 = 0
    · have h2 : c y.1 x.1 = 0 := (hc.eq0 _ _).2 ((hc.eq0 _ _).1 h).symm
      rw [if_neg (by simpa using h), if_neg (by simpa using h2)]; exact hd.anti _ _
    · have h2 : ¬ c y.1 x.1 = 0 := fun e => h ((hc.eq0 _ _).2 ((hc.eq0 _ _).1 e).symm)
      rw [if_pos h, if_pos h2]; exact hc.anti _ _
  trans x y z := by
    unfold thenC
    by_cases h : c x.1 y.1 = 0
    · have e := (hc.eq0 _ _).1 h
      rw [if_neg (by simpa using h), ← e]
      by_cases h2 : c x.1 z.1 = 0
      · rw [if_neg (by simpa using h2), if_neg (by simpa using h2)]; exact hd.trans _ _ _
      · rw [if_pos h2, if_pos h2]; exact fun _ h => h
    · rw [if_pos h]
      by_cases h2 : c y.1 z.1 = 0
      · have e := (hc.eq0 _ _).1 h2
        rw [if_neg (by simpa using h2), ← e, if_pos h]; exact fun h _ => h
      · rw [if_pos h2]
        intro h3 h4
        have h5 := hc.trans _ _ _ h3 h4
        rw [if_pos (by omega)]; exact h5
theorem Lin.comp {α β : Type} {c : α → α → Int} (h : Lin c) (f : β → α) (hf : ∀ x y, f x = f y → x = y) : Lin (fun x y => c (f x) (f y)) where
  eq0 x y := (h.eq0 _ _).trans ⟨hf x y, fun e => by rw [e]⟩
  anti x y := h.anti _ _
  trans x y z := h.trans _ _ _
/-- words: the shorter one is ahead -/
def cmpW (a b : List ByteArray) : Int := thenC (cmpI a.length b.length) (cmpL a b)
theorem cmpW_lin : Lin cmpW := by
  have h := (thenC_lin cmpI_lin cmpL_lin).comp (fun a : List ByteArray => ((a.length : Int), a)) (fun x y e => (Prod.ext_iff.1 e).2)
  exact h

set_option maxHeartbeats 1000000 in
theorem isNaN_str (s : ByteArray) (w : World) : Calls Try.prog 55 #[.string s] w fun e w' => e = .returned (.bool false) ∧ w' = w := by
  go_enter Try.func55, Try.ntmps55
  go_wp2_with fail
  go_ret
  exact ⟨by simp, rfl⟩
set_option maxHeartbeats 1000000 in
theorem isNaN_int (x : Int) (w : World) : Calls Try.prog 42 #[.int .i64 x] w fun e w' => e = .returned (.bool false) ∧ w' = w := by
  go_enter Try.func42, Try.ntmps42
  go_wp2_with fail
  go_ret
  exact ⟨by simp, rfl⟩
set_option maxHeartbeats 1000000 in
theorem cmpI_calls (x y : Int) (w : World) : Calls Try.prog 32 #[.int .i64 x, .int .i64 y] w fun e w' => e = .returned (.int .i64 (cmpI x y)) ∧ w' = w := by
  have HC := Sh.mk (show cmpI x y = if x < y then -1 else if y < x then 1 else 0 from rfl)
  go_enter Try.func32, Try.ntmps32
  go_wp2_with (go_at_call 42; (with_reducible refine (isNaN_int _ _).mono ?_); rintro e w' ⟨rfl, rfl⟩)
  all_goals go_ret
  all_goals exact ⟨by rw [HC.out]; simp [*] <;> omega, rfl⟩
set_option maxHeartbeats 1000000 in
theorem cmpS_calls (x y : ByteArray) (w : World) : Calls Try.prog 43 #[.string x, .string y] w fun e w' => e = .returned (.int .i64 (cmpS x y)) ∧ w' = w := by
  have HC := Sh.mk (show cmpS x y = if Op.bytesLess x.toList y.toList = true then -1 else if (x.toList == y.toList) = true then 0 else 1 by unfold cmpS; simp)
  generalize hl : Op.bytesLess x.toList y.toList = bl at *
  generalize he : (x.toList == y.toList) = be at *
  go_enter Try.func43, Try.ntmps43
  cases bl <;> cases be
  all_goals go_wp2_with (go_at_call 55; (with_reducible refine (isNaN_str _ _).mono ?_); rintro e w' ⟨rfl, rfl⟩)
  all_goals go_ret
  all_goals exact ⟨by rw [HC.out]; rfl, rfl⟩

theorem cmpL_drop (a b : List ByteArray) (k : Nat) (h : k < a.length) (hb : k < b.length) : cmpL (a.drop k) (b.drop k) = if cmpS a[k] b[k] = 0 then cmpL (a.drop (k + 1)) (b.drop (k + 1)) else cmpS a[k] b[k] := by
  rw [List.drop_eq_getElem_cons h, List.drop_eq_getElem_cons hb]; rfl
def cmpF (a b : List ByteArray) (k : Nat) : Int := cmpL (a.drop k) (b.drop k)
set_option maxHeartbeats 1000000 in
theorem cmpL_calls (A0 A1 : Option Addr) (c0 c1 : Nat) (l0 l1 : List ByteArray) (M0 M1 : Nat → Prop) (w : World) (h0 : Kd.str.C M0 w A0 l0) (h1 : Kd.str.C M1 w A1 l1) :
    Calls Try.prog 33 #[.slice A0 l0.length c0, .slice A1 l1.length c1] w fun e w' => e = .returned (.int .i64 (cmpL l0 l1)) ∧ w' = w := by
  have H0 := Sh.mk h0
  have H1 := Sh.mk h1
  have hm0 := h0.1
  have hm1 := h1.1
  clear h0 h1
  have HV := Sh.mk (show cmpL l0 l1 = cmpF l0 l1 0 from rfl)
  go_enter Try.func33, Try.ntmps33
  go_wp2_with fail
  go_loop [11] (fun v11 => ∃ k : Nat, k ≤ l0.length ∧ k ≤ l1.length ∧ v11 = .int .i64 k ∧ Sh (cmpL l0 l1 = cmpF l0 l1 k)) (fun v11 => l0.length - (intOf v11).toNat)
  case atStart => exact ⟨0, by omega, by omega, rfl, HV⟩
  case round =>
    clear HV
    obtain ⟨k, hk, hk1, rfl, H⟩ := hrel
    by_cases hlt : k < l0.length
    · obtain ⟨ad0, rfl, hc0, hs0⟩ := Kd.at_str H0.out k hlt
      by_cases hlt1 : k < l1.length
      · obtain ⟨ad1, rfl, hc1, hs1⟩ := Kd.at_str H1.out k hlt1
        have HE := Sh.mk (cmpL_drop l0 l1 k hlt hlt1)
        have HC := Sh.mk (fun W => cmpS_calls l0[k] l1[k] W)
        generalize l0[k] = x at *
        generalize l1[k] = y at *
        generalize cmpS x y = r at *
        by_cases hr : r = 0
        · have hrb : (r == 0) = true := by simpa using hr
          have HR := Sh.mk hr
          clear hr
          go_wp2_with ((with_reducible refine (HC.out _).mono ?_); rintro e w' ⟨rfl, rfl⟩)
          go_round
          case rel => exact ⟨k + 1, by omega, by omega, by go_num, ⟨by rw [H.out]; unfold cmpF; rw [HE.out, if_pos HR.out]⟩⟩
          case measure => simp [intOf]; omega
        · have hrb : (r == 0) = false := by simpa using hr
          have HR := Sh.mk hr
          clear hr
          go_wp2_with ((with_reducible refine (HC.out _).mono ?_); rintro e w' ⟨rfl, rfl⟩)
          go_ret
          exact ⟨by rw [H.out]; unfold cmpF; rw [HE.out, if_neg HR.out]; rfl, rfl⟩
      · have HE := Sh.mk (show cmpF l0 l1 k = 1 by unfold cmpF; rw [List.drop_of_length_le (show l1.length ≤ k by omega), List.drop_eq_getElem_cons hlt]; rfl)
        go_wp2_with fail
        go_ret
        exact ⟨by rw [H.out, HE.out]; rfl, rfl⟩
    · by_cases hlt1 : k < l1.length
      · have HE := Sh.mk (show cmpF l0 l1 k = -1 by unfold cmpF; rw [List.drop_of_length_le (show l0.length ≤ k by omega), List.drop_eq_getElem_cons hlt1]; rfl)
        have hll : l0.length < l1.length := by omega
        go_wp2_with fail
        go_ret
        exact ⟨by rw [H.out, HE.out]; rfl, rfl⟩
      · have HE := Sh.mk (show cmpF l0 l1 k = 0 by unfold cmpF; rw [List.drop_of_length_le (show l0.length ≤ k by omega), List.drop_of_length_le (show l1.length ≤ k by omega)]; rfl)
        have hll : ¬ l0.length < l1.length := by omega
        go_wp2_with fail
        go_ret
        exact ⟨by rw [H.out, HE.out]; rfl, rfl⟩
set_option maxHeartbeats 1000000 in
theorem cmpW_calls (A0 A1 : Option Addr) (c0 c1 : Nat) (l0 l1 : List ByteArray) (M0 M1 : Nat → Prop) (w : World) (h0 : Kd.str.C M0 w A0 l0) (h1 : Kd.str.C M1 w A1 l1) :
    Calls Try.prog 22 #[.slice A0 l0.length c0, .slice A1 l1.length c1] w fun e w' => e = .returned (.int .i64 (cmpW l0 l1)) ∧ w' = w := by
  have HI := Sh.mk (fun W => cmpI_calls l0.length l1.length W)
  have HL := Sh.mk (cmpL_calls A0 A1 c0 c1 l0 l1 M0 M1 w h0 h1)
  have HV := Sh.mk (show cmpW l0 l1 = thenC (cmpI l0.length l1.length) (cmpL l0 l1) from rfl)
  have hm0 := h0.1
  have hm1 := h1.1
  clear h0 h1
  generalize cmpI l0.length l1.length = r at *
  generalize cmpL l0 l1 = q at *
  by_cases hr : r = 0
  · have hrb : (r == 0) = true := by simpa using hr
    have HR := Sh.mk hr
    clear hr
    go_enter Try.func22, Try.ntmps22
    go_wp2_with fail
    (with_reducible refine (HI.out _).mono ?_)
    rintro e w' ⟨rfl, rfl⟩
    go_wp2_with fail
    (with_reducible refine (HL.out).mono ?_)
    rintro e w' ⟨rfl, rfl⟩
    go_wp2_with fail
    go_ret
    exact ⟨by rw [HV.out]; unfold thenC; rw [if_neg (by simpa using HR.out)]; rfl, rfl⟩
  · have hrb : (r == 0) = false := by simpa using hr
    have HR := Sh.mk hr
    clear hr
    go_enter Try.func22, Try.ntmps22
    go_wp2_with fail
    (with_reducible refine (HI.out _).mono ?_)
    rintro e w' ⟨rfl, rfl⟩
    go_wp2_with fail
    go_ret
    exact ⟨by rw [HV.out]; unfold thenC; rw [if_pos (by simpa using HR.out)]; rfl, rfl⟩
end Go.Proofs.Ythfonlnlopmonaa

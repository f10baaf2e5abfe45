/- Package syms: what a symbol and a word is. -/
import Derived.Test.YthfonlnlopmonaaSl
set_option linter.unusedVariables false
set_option linter.unusedSimpArgs false
namespace Go.Proofs.Ythfonlnlopmonaa
open Go.RowKit

def symB (b : UInt8) : Bool := !(b.toNat < 33 || 126 < b.toNat || b.toNat == 60 || b.toNat == 62)
def isSym (s : ByteArray) : Bool := s.data.toList.all symB && !s.data.toList.isEmpty
def longSym (s : ByteArray) : Bool := decide (16 < s.size)
/-- ValidateWord's answer -/
def vWord (l : List ByteArray) : Int := if 60 < l.length ∨ l.any longSym = true then 3 else if l.any (fun s => !isSym s) = true then 1 else 0

theorem isLong_calls (s : ByteArray) (w : World) : Calls Try.prog 39 #[.string s] w fun e w' => e = .returned (.bool (longSym s)) ∧ Dr w w' := by
  go_enter Try.func39, Try.ntmps39
  go_wp2_with fail
  go_ret
  exact ⟨by simp [longSym, Int.ofNat_lt] <;> omega, Dr.refl _⟩

theorem symB_iff (b : UInt8) : symB b = true ↔ (33 ≤ (b.toNat : Int) ∧ (b.toNat : Int) ≤ 126 ∧ ((b.toNat : Int) == 60) = false ∧ ((b.toNat : Int) == 62) = false) := by
  simp [symB]; omega
def symsTo (s : ByteArray) (k : Nat) : Bool := (s.data.toList.drop k).all symB
theorem symsTo_succ (s : ByteArray) (k : Nat) (h : k < s.size) : symsTo s k = (symB s[k] && symsTo s (k + 1)) := by
  unfold symsTo
  rw [List.drop_eq_getElem_cons (by simpa using h)]
  rfl
theorem symsTo_end (s : ByteArray) (k : Nat) (h : ¬ k < s.size) : symsTo s k = true := by
  unfold symsTo
  rw [List.drop_of_length_le (by simp; omega)]
  rfl
theorem isSym_eq (s : ByteArray) : isSym s = (symsTo s 0 && !s.toList.isEmpty) := by unfold isSym symsTo; rw [ByteArray.toList_eq]; rfl
set_option maxHeartbeats 1000000 in
theorem isSymbol_calls (s : ByteArray) (w : World) (hs : s.size ≤ 140737488355328) : Calls Try.prog 41 #[.string s] w fun e w' => e = .returned (.bool (isSym s)) ∧ Dr w w' := by
  have HE := Sh.mk (isSym_eq s)
  go_enter Try.func41, Try.ntmps41
  go_wp2_with fail
  go_loop [6] (fun v6 => ∃ k : Nat, k ≤ s.size ∧ v6 = .int .i64 k ∧ Sh (symsTo s 0 = symsTo s k)) (fun v6 => s.size - (intOf v6).toNat)
  case atStart => exact ⟨0, by omega, rfl, ⟨rfl⟩⟩
  case round =>
    obtain ⟨k, hk, rfl, H⟩ := hrel
    by_cases hlt : k < s.size
    · have HS := Sh.mk (symsTo_succ s k hlt)
      by_cases hb : symB s[k] = true
      · obtain ⟨h1, h2, h3, h4⟩ := (symB_iff s[k]).1 hb
        have HB := Sh.mk hb
        clear hb
        go_wp2_with fail
        go_round
        case rel => exact ⟨k + 1, by omega, by go_num, ⟨by rw [H.out, HS.out, HB.out]; rfl⟩⟩
        case measure => simp [intOf]; omega
      · have HN := Sh.mk (mt (symB_iff s[k]).2 hb)
        have HB := Sh.mk (eq_false_of_ne_true hb)
        clear hb
        go_wp2_with fail
        all_goals first
          | (go_ret; exact ⟨by rw [HE.out, H.out, HS.out, HB.out]; rfl, Dr.refl _⟩)
          | exact absurd ⟨by omega, by omega, by simp_all, by simp_all⟩ HN.out
    · have HS := Sh.mk (symsTo_end s k hlt)
      go_wp2_with fail
      go_ret
      exact ⟨by rw [HE.out, H.out, HS.out]; simp, Dr.refl _⟩

set_option maxHeartbeats 1000000 in
theorem notSymbol_calls (s : ByteArray) (w : World) (hs : s.size ≤ 140737488355328) : Calls Try.prog 40 #[.string s] w fun e w' => e = .returned (.bool (!isSym s)) ∧ Dr w w' := by
  have h1 := Sh.mk (isSymbol_calls s w hs)
  go_enter Try.func40, Try.ntmps40
  go_wp2_with (go_at_call 41; (with_reducible refine (h1.out).mono ?_); rintro e w' ⟨rfl, h2⟩; have H2 := Sh.mk h2; clear h2)
  go_ret
  exact ⟨rfl, H2.out⟩
theorem ent_isLong : Entered Try.prog 39 := fun _ _ => rfl
theorem ent_notSym : Entered Try.prog 40 := fun _ _ => rfl

set_option maxHeartbeats 1000000 in
theorem validateWord_calls (A : Option Addr) (c : Nat) (l : List ByteArray) (M : Nat → Prop) (w : World) (hr : Kd.str.C M w A l) :
    Calls Try.prog 30 #[.slice A l.length c] w fun e w' => e = .returned (.int .i64 (vWord l)) ∧ Dr w w' := by
  have hl : l.length ≤ 140737488355328 := hr.1
  have hs := Kd.str_sizes hr
  have hL : ∀ w1, Ext w w1 → Calls Try.prog 38 #[.slice A l.length c, .func (.func 39) #[] #[]] w1 fun e w' => e = .returned (.bool (l.any longSym)) ∧ Dr w1 w' :=
    fun w1 hx => contains_str Mode.dr 39 #[] longSym ent_isLong A c l M w1 (hr.ext hx) (fun x _ w2 _ => isLong_calls x w2)
  have hS : ∀ w1, Ext w w1 → Calls Try.prog 38 #[.slice A l.length c, .func (.func 40) #[] #[]] w1 fun e w' => e = .returned (.bool (l.any (fun s => !isSym s))) ∧ Dr w1 w' :=
    fun w1 hx => contains_str Mode.dr 40 #[] (fun s => !isSym s) ent_notSym A c l M w1 (hr.ext hx) (fun x hx w2 _ => notSymbol_calls x w2 (hs x hx))
  have HL := Sh.mk hL
  have HS := Sh.mk hS
  clear hL hS hr hs
  obtain ⟨bl, hbl⟩ : ∃ b, b = l.any longSym := ⟨_, rfl⟩
  obtain ⟨bs, hbs⟩ : ∃ b, b = l.any (fun s => !isSym s) := ⟨_, rfl⟩
  rw [← hbl] at HL
  rw [← hbs] at HS
  have HV := Sh.mk (show vWord l = if 60 < l.length ∨ bl = true then 3 else if bs = true then 1 else 0 by unfold vWord; rw [← hbl, ← hbs])
  clear hbl hbs
  by_cases h60 : 60 < l.length
  · go_enter Try.func30, Try.ntmps30
    go_wp2_with fail
    go_ret
    exact ⟨by rw [HV.out, if_pos (.inl h60)]; rfl, Dr.refl _⟩
  · cases bl with
    | true =>
      go_enter Try.func30, Try.ntmps30
      go_wp2_with ((with_reducible refine (HL.out _ (Ext.refl _)).mono ?_); rintro e w' ⟨rfl, h2⟩; have H2 := Sh.mk h2; clear h2)
      go_ret
      exact ⟨by rw [HV.out, if_pos (.inr trivial)]; rfl, H2.out⟩
    | false =>
      go_enter Try.func30, Try.ntmps30
      go_wp2_with fail
      (with_reducible refine (HL.out _ (Ext.refl _)).mono ?_)
      rintro e w1 ⟨rfl, h2⟩
      have H2 := Sh.mk h2
      clear h2
      go_wp2_with fail
      (with_reducible refine (HS.out _ H2.out.ext).mono ?_)
      rintro e w2 ⟨rfl, h3⟩
      have H3 := Sh.mk h3
      clear h3
      go_wp2_with fail
      all_goals go_ret
      all_goals exact ⟨by rw [HV.out]; simp [*], H2.out.trans H3.out⟩
end Go.Proofs.Ythfonlnlopmonaa

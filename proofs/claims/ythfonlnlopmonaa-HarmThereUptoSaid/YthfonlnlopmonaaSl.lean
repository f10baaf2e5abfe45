/- Contracts of package slices at []string: IndexFunc, ContainsFunc, Equal, Clone. -/
import Derived.Test.YthfonlnlopmonaaBase
set_option linter.unusedVariables false
set_option linter.unusedSimpArgs false
namespace Go.Proofs.Ythfonlnlopmonaa
open Go.RowKit

/-- the first place where p holds, counted from i -/
def idxFrom {α : Type} (p : α → Bool) : List α → Nat → Int
  | [], _ => -1
  | x :: l, i => if p x then (i : Int) else idxFrom p l (i + 1)
theorem idxFrom_any {α : Type} (p : α → Bool) : ∀ (l : List α) (i : Nat), (decide (0 ≤ idxFrom p l i)) = l.any p
  | [], i => by simp [idxFrom]
  | x :: l, i => by
    unfold idxFrom
    by_cases h : p x = true
    · simp [h]
    · rw [if_neg h, idxFrom_any p l (i + 1)]; simp [h]
theorem idxFrom_drop {α : Type} (p : α → Bool) (l : List α) (k : Nat) (h : k < l.length) : idxFrom p (l.drop k) k = if p l[k] then (k : Int) else idxFrom p (l.drop (k + 1)) (k + 1) := by
  rw [List.drop_eq_getElem_cons h]; rfl
theorem idxFrom_end {α : Type} (p : α → Bool) (l : List α) (k : Nat) (h : ¬ k < l.length) : idxFrom p (l.drop k) k = -1 := by
  rw [List.drop_of_length_le (by omega)]; rfl

/-- how much a callee may turn -/
structure Mode (R : World → World → Prop) : Prop where
  refl : ∀ w, R w w
  trans : ∀ {a b c}, R a b → R b c → R a c
  ext : ∀ {a b}, R a b → Ext a b
theorem Mode.dr : Mode Dr := ⟨Dr.refl, Dr.trans, Dr.ext⟩
theorem Mode.ex : Mode Ext := ⟨Ext.refl, Ext.trans, fun h => h⟩
def Entered (P : Program) (g : FuncId) : Prop := ∀ (xs : Array Value) (w : World), (callFunc g xs).run P w = .ok (.enter g xs) w
/-- the function value g with what it captured answers p at x -/
def Pred (P : Program) (R : World → World → Prop) (g : FuncId) (cap : Array Value) (w : World) (v : Value) (b : Bool) : Prop :=
  ∀ w1, Ext w w1 → Calls P g (#[v] ++ cap) w1 fun e w2 => e = .returned (.bool b) ∧ R w1 w2

set_option maxHeartbeats 1000000 in
theorem index_str {R : World → World → Prop} (hR : Mode R) (g : Nat) (cap : Array Value) (p : ByteArray → Bool) (hg : Entered Try.prog g) (A : Option Addr) (c : Nat) (l : List ByteArray) (M : Nat → Prop) (w : World) (hr : Kd.str.C M w A l)
    (hp : ∀ x, x ∈ l → Pred Try.prog R g cap w (.string x) (p x)) :
    Calls Try.prog 54 #[.slice A l.length c, .func (.func g) #[] cap] w fun e w' => e = .returned (.int .i64 (idxFrom p l 0)) ∧ R w w' := by
  have HR := Sh.mk hr
  have HP := Sh.mk hp
  have hm : l.length ≤ 140737488355328 := hr.1
  have hg' : ∀ (xs : Array Value) (w : World), (callFunc g xs).run Try.prog w = .ok (.enter g xs) w := hg
  clear hr hp
  go_enter Try.func54, Try.ntmps54
  go_wp2_with fail
  go_loopw [8] (fun v8 wr => ∃ k : Nat, k ≤ l.length ∧ v8 = .int .i64 k ∧ Sh (idxFrom p l 0 = idxFrom p (l.drop k) k) ∧ Sh (R w wr)) (fun v8 _ => l.length - (intOf v8).toNat)
  case atStart => exact ⟨0, by omega, rfl, ⟨rfl⟩, ⟨hR.refl _⟩⟩
  case round =>
    obtain ⟨k, hk, rfl, H, HW⟩ := hrel
    by_cases hlt : k < l.length
    · obtain ⟨ad, rfl, hc, hsz⟩ := Kd.at_str HR.out k hlt
      have hc' := (hR.ext HW.out).cell hc
      clear hc
      have HPk := Sh.mk (HP.out l[k] (List.getElem_mem hlt) wr (hR.ext HW.out))
      have HE := Sh.mk (idxFrom_drop p l k hlt)
      generalize hx : l[k] = x at *
      clear hx
      generalize hb : p x = b at *
      clear hb
      go_wp2_with (refine (HPk.out).mono ?_; rintro e w' ⟨rfl, h2⟩; have H2 := Sh.mk h2; clear h2)
      · go_ret
        rw [H.out, HE.out]
        exact ⟨by simp [*], hR.trans HW.out H2.out⟩
      · go_roundw
        case rel => exact ⟨k + 1, by omega, by go_num, ⟨by rw [H.out, HE.out]; simp [*]⟩, ⟨hR.trans HW.out H2.out⟩⟩
        case measure => simp [intOf]; omega
    · have HE := Sh.mk (idxFrom_end p l k hlt)
      go_wp2_with fail
      go_ret
      exact ⟨by rw [H.out, HE.out]; rfl, HW.out⟩

set_option maxHeartbeats 1000000 in
theorem contains_str {R : World → World → Prop} (hR : Mode R) (g : Nat) (cap : Array Value) (p : ByteArray → Bool) (hg : Entered Try.prog g) (A : Option Addr) (c : Nat) (l : List ByteArray) (M : Nat → Prop) (w : World) (hr : Kd.str.C M w A l)
    (hp : ∀ x, x ∈ l → Pred Try.prog R g cap w (.string x) (p x)) :
    Calls Try.prog 38 #[.slice A l.length c, .func (.func g) #[] cap] w fun e w' => e = .returned (.bool (l.any p)) ∧ R w w' := by
  have HI := Sh.mk (index_str hR g cap p hg A c l M w hr hp)
  have HE := Sh.mk (idxFrom_any p l 0)
  clear hr hp
  go_enter Try.func38, Try.ntmps38
  go_wp2_with (go_at_call 54; refine (HI.out).mono ?_; rintro e w' ⟨rfl, h2⟩; have H2 := Sh.mk h2; clear h2)
  go_ret
  exact ⟨by rw [← HE.out]; simp, H2.out⟩

/-! ### Equal, Grow, Clone, Concat -/
theorem bytes_toList {a b : ByteArray} (h : a.toList = b.toList) : a = b := by
  rw [ByteArray.toList_eq, ByteArray.toList_eq] at h
  exact ByteArray.ext (Array.toList_inj.mp h)
theorem bytes_eq (a b : ByteArray) : (a.toList == b.toList) = decide (a = b) := by
  by_cases h : a = b
  · subst h; simp
  · have : ¬ a.toList = b.toList := fun e => h (bytes_toList e)
    simp [h, this]
set_option maxHeartbeats 1000000 in
theorem equal_str (A0 A1 : Option Addr) (c0 c1 : Nat) (l0 l1 : List ByteArray) (M0 M1 : Nat → Prop) (w : World) (h0 : Kd.str.C M0 w A0 l0) (h1 : Kd.str.C M1 w A1 l1) :
    Calls Try.prog 17 #[.slice A0 l0.length c0, .slice A1 l1.length c1] w fun e w' => e = .returned (.bool (decide (l0 = l1))) ∧ Dr w w' := by
  have H0 := Sh.mk h0
  have H1 := Sh.mk h1
  have hm0 : l0.length ≤ 140737488355328 := h0.1
  have hm1 : l1.length ≤ 140737488355328 := h1.1
  clear h0 h1
  by_cases hl : l0.length = l1.length
  · have hb : (l0.length == l1.length) = true := by simpa using hl
    have HL := Sh.mk hl
    go_enter Try.func17, Try.ntmps17
    clear hl
    go_wp2_with fail
    clear hb
    go_loopw [13] (fun v13 wr => ∃ k : Nat, k ≤ l0.length ∧ v13 = .int .i64 k ∧ Sh (l0.take k = l1.take k) ∧ Dr w wr) (fun v13 _ => l0.length - (intOf v13).toNat)
    case atStart => exact ⟨0, by omega, rfl, ⟨rfl⟩, Dr.refl _⟩
    case round =>
      obtain ⟨k, hk, rfl, H, ⟨m, rfl⟩⟩ := hrel
      by_cases hlt : k < l0.length
      · have hlt1 : k < l1.length := by have := HL.out; omega
        obtain ⟨ad0, rfl, hc0, hs0⟩ := Kd.at_str H0.out k hlt
        obtain ⟨ad1, rfl, hc1, hs1⟩ := Kd.at_str H1.out k hlt1
        have hi0 : (0 : Int) ≤ k := by omega
        have hi1 : (k : Int) < (l0.length : Int) := by omega
        have hi2 : (k : Int) < (l1.length : Int) := by omega
        by_cases hx : l0[k] = l1[k]
        · have HX := Sh.mk hx
          have hc0' : w.cell? (ad0.add k) = some (.string l1[k]) := by rw [← hx]; exact hc0
          clear hc0 hx
          go_wp2_with fail
          go_quiet (fail)
          go_wp2_with fail
          go_roundw
          case rel => exact ⟨k + 1, by omega, by go_num, ⟨by rw [List.take_succ_eq_append_getElem hlt, List.take_succ_eq_append_getElem hlt1, H.out, HX.out]⟩, by repeat (first | exact Dr.refl _ | apply Dr.drewN | apply Dr.drew)⟩
          case measure => simp [intOf]; omega
        · have hx' : (l0[k].toList == l1[k].toList) = false := by rw [bytes_eq]; simpa using hx
          have hx2 : (l0[k].toList != l1[k].toList) = true := by simp [bne, hx']
          have HN := Sh.mk (show ¬ l0 = l1 from fun e => hx (by subst e; rfl))
          clear hx
          generalize l0[k] = x at *
          generalize hy : l1[k] = y at *
          clear hy
          go_wp2_with fail
          go_quiet (fail)
          go_wp2_with fail
          go_ret
          exact ⟨by simp [HN.out], by repeat (first | exact Dr.refl _ | apply Dr.drewN | apply Dr.drew)⟩
      · go_wp2_with fail
        go_ret
        refine ⟨?_, by repeat (first | exact Dr.refl _ | apply Dr.drewN | apply Dr.drew)⟩
        have h2 := H.out
        rw [List.take_of_length_le (by omega), List.take_of_length_le (by have := HL.out; omega)] at h2
        simp [h2]
  · have hb : (l0.length == l1.length) = false := by simpa using hl
    have hne : ¬ l0 = l1 := fun e => hl (by rw [e])
    go_enter Try.func17, Try.ntmps17
    go_wp2_with fail
    go_ret
    exact ⟨by simp [hne], Dr.refl _⟩

theorem info_str : (Try.prog.info? 9).map (fun i => (i.zero, i.size, i.bytes)) = some (some (.string ⟨#[]⟩), Kd.str.sz, 16) := by kernel_rfl
set_option maxHeartbeats 1000000 in
theorem grow_str (n : Int) (M : Nat → Prop) (w : World) (hM : ∀ k, M k → k < w.heap.size) (h0 : 0 ≤ n) (hn : n * 16 ≤ 140737488355328) :
    Calls Try.prog 31 #[.slice none 0 0, .int .i64 n] w fun e w' => Sh (∃ v, e = .returned v ∧ Kd.str.Own 9 M w' w.heap.size v [] ∧ Ext w w') := by
  obtain ⟨m, rfl⟩ := Int.eq_ofNat_of_zero_le h0
  have hn' : m * 16 ≤ 140737488355328 := by omega
  by_cases hm : 0 < m
  · go_enter Try.func31, Try.ntmps31
    go_wp2_with (at_builtin; refine wp_grow_nil rfl _ _ 23 3 9 (.string ⟨#[]⟩) Kd.str.sz 16 rfl Try.underlying23 Try.underlying3 info_str rfl Kd.str.pos (by omega) m rfl rfl hm hn' ?_; intro cap cur h1 h2 h3; have H := Sh.mk (And.intro h1 (And.intro h2 h3)); clear h1 h2 h3)
    go_ret
    refine ⟨_, rfl, ?_, ?_⟩
    · exact own_new Kd.str 9 M w.drew w.heap.size cap cur hM (Nat.le_refl _) H.out.2.1 H.out.2.2
    · exact ((Ext.refl _).drew).alloc _
  · obtain rfl : m = 0 := by omega
    go_enter Try.func31, Try.ntmps31
    go_wp2_with fail
    go_ret
    exact ⟨_, rfl, Kd.Own.nil .., Ext.refl _⟩

set_option maxHeartbeats 1000000 in
theorem clone_str (A : Option Addr) (c : Nat) (l : List ByteArray) (M : Nat → Prop) (w : World) (hM : ∀ k, M k → k < w.heap.size) (hr : Kd.str.C M w A l) (hn : l.length * 16 ≤ 140737488355328) :
    Calls Try.prog 18 #[.slice A l.length c] w fun e w' => Sh (∃ v, e = .returned v ∧ Kd.str.Own 9 M w' w.heap.size v l ∧ Ext w w') := by
  have HR := Sh.mk hr
  clear hr
  have h1 := Lib.run_eql_slice_nil (P := Try.prog) w 23 9
  cases A with
  | none =>
    have hl : l = [] := by
      by_cases h0 : 0 < l.length
      · obtain ⟨ad, e, _⟩ := HR.out.2 h0
        cases e
      · exact List.eq_nil_of_length_eq_zero (by omega)
    subst hl
    go_enter Try.func18, Try.ntmps18
    go_wp2_with fail
    go_ret
    exact ⟨_, rfl, Kd.Own.nil .., Ext.refl _⟩
  | some ad =>
    have HO := Sh.mk (own_new Kd.str 9 M w w.heap.size 0 #[] hM (Nat.le_refl _) (by simp [maxLen]) rfl)
    have HC := Sh.mk ((HR.out.weak (M' := fun k => M k ∨ (Value.slice (some ⟨w.heap.size, 0, none⟩) 0 0).ownBlock = some k) (fun k hk h => h.elim id (fun e => by have e' : w.heap.size = k := Option.some.inj e; omega))).ext ((Ext.refl w).alloc (.cells #[] 9)))
    go_enter Try.func18, Try.ntmps18
    go_wp2_with (at_builtin; refine wp_apps Kd.str 9 M w.heap.size rfl _ _ 23 (.string ⟨#[]⟩) 16 rfl Try.underlying23 info_str rfl (by omega) _ [] l _ c rfl rfl HO.out (by simp) (fun k hk => by have := hM k hk; simp; omega) HC.out (by simpa using hn) ?_; intro v1 w1 g1 g2 g3; have G := Sh.mk (And.intro g1 g2); clear g1 g2 g3)
    go_ret
    refine ⟨_, rfl, G.out.1, ((Ext.refl w).alloc _).then G.out.2 (fun i hi e => ?_)⟩
    have e' : w.heap.size = i := Option.some.inj e
    omega

theorem flat_take {α : Type} (ls : List (List α)) (k : Nat) (h : k < ls.length) : (ls.take (k + 1)).flatten = (ls.take k).flatten ++ ls[k] := by
  rw [List.take_succ_eq_append_getElem h]; simp only [List.flatten_append, List.flatten_cons, List.flatten_nil, List.append_nil]
theorem flat_le {α : Type} (ls : List (List α)) (k : Nat) : (ls.take k).flatten.length ≤ ls.flatten.length := by
  conv => rhs; rw [← List.take_append_drop k ls]
  rw [List.flatten_append, List.length_append]
  omega
def flatTo {α : Type} (ls : List (List α)) (k : Nat) : List α := (ls.take k).flatten
def flatLen {α : Type} (ls : List (List α)) (k : Nat) : Nat := (flatTo ls k).length
theorem flatTo_succ {α : Type} (ls : List (List α)) (k : Nat) (h : k < ls.length) : flatTo ls (k + 1) = flatTo ls k ++ ls[k] := flat_take ls k h
theorem flatLen_succ {α : Type} (ls : List (List α)) (k : Nat) (h : k < ls.length) : flatLen ls (k + 1) = flatLen ls k + ls[k].length := by unfold flatLen; rw [flatTo_succ ls k h, List.length_append]
theorem flatLen_le {α : Type} (ls : List (List α)) (k : Nat) : flatLen ls k ≤ ls.flatten.length := flat_le ls k
theorem flatTo_all {α : Type} (ls : List (List α)) : flatTo ls ls.length = ls.flatten := by unfold flatTo; rw [List.take_length]
set_option maxHeartbeats 2000000 in
theorem concat_str (A : Option Addr) (c : Nat) (ls : List (List ByteArray)) (M : Nat → Prop) (w : World) (hM : ∀ k, M k → k < w.heap.size) (hr : (Kd.sl Kd.str).C M w A ls) (hn : ls.flatten.length * 16 ≤ 140737488355328) :
    Calls Try.prog 20 #[.slice A ls.length c] w fun e w' => Sh (∃ v, e = .returned v ∧ Kd.str.Own 9 M w' w.heap.size v ls.flatten ∧ Ext w w') := by
  have HR := Sh.mk hr
  have hm : ls.length ≤ 140737488355328 := hr.1
  have HA := Sh.mk (flatTo_all ls)
  obtain ⟨T, hT⟩ : ∃ T, T = ls.flatten.length := ⟨_, rfl⟩
  rw [← hT] at hn
  have HT := Sh.mk hT
  clear hr hT
  go_enter Try.func20, Try.ntmps20
  go_wp2_with fail
  go_loop [3, 11] (fun v3 v11 => ∃ k : Nat, k ≤ ls.length ∧ v3 = .int .i64 (flatLen ls k : Nat) ∧ v11 = .int .i64 k) (fun _ v11 => ls.length - (intOf v11).toNat)
  case atStart => exact ⟨0, by omega, rfl, rfl⟩
  case round =>
    obtain ⟨k, hk, rfl, rfl⟩ := hrel
    by_cases hlt : k < ls.length
    · obtain ⟨ad, A', c', rfl, hc, hcl, hC⟩ := Kd.at_sl HR.out k hlt
      have HF := Sh.mk (flatLen_succ ls k hlt)
      have hle : flatLen ls (k + 1) ≤ T := by rw [HT.out]; exact flatLen_le ls (k + 1)
      rw [HF.out] at hle
      clear hC
      go_wp2_with fail
      go_round
      case rel => exact ⟨k + 1, by omega, by rw [HF.out]; go_num, by go_num⟩
      case measure => simp [intOf]; omega
    · have hkl : k = ls.length := by omega
      subst hkl
      have hg := grow_str ((flatLen ls ls.length : Nat) : Int) M w hM (by omega) (by have := flatLen_le ls ls.length; rw [← HT.out] at this; omega)
      clear hlt hk
      go_wp2_with ((with_reducible refine hg.mono ?_); clear hg; intro e w' h; obtain ⟨v, rfl, h1, h2⟩ := h.out; have HO := Sh.mk h1; have HX := Sh.mk h2; clear h1 h2 h)
      have hv := HO.out.1
      go_loopw [6, 27] (fun v6 v27 wr => ∃ k : Nat, k ≤ ls.length ∧ v27 = .int .i64 k ∧ Sh (Kd.str.Own 9 M wr w.heap.size v6 (flatTo ls k)) ∧ Sh (Ext w wr)) (fun _ v27 _ => ls.length - (intOf v27).toNat)
      case atStart => exact ⟨0, by omega, rfl, HO, HX⟩
      case round =>
        clear HO HX hv
        obtain ⟨k, hk, rfl, HO, HX⟩ := hrel
        by_cases hlt : k < ls.length
        · obtain ⟨ad, A', c', rfl, hc, hcl, hC⟩ := Kd.at_sl HR.out k hlt
          have hc' := HX.out.cell hc
          have HF := Sh.mk (flatTo_succ ls k hlt)
          have hle : flatLen ls (k + 1) ≤ T := by rw [HT.out]; exact flatLen_le ls (k + 1)
          have HL := Sh.mk (flatLen_succ ls k hlt)
          rw [HL.out] at hle
          have HC := Sh.mk ((hC.weak (M' := fun k => M k ∨ u6.ownBlock = some k) (fun i hi h => h.elim id (fun e => by have := HO.out.lt i e; omega))).ext HX.out)
          clear hc hC
          go_wp2_with (at_builtin; refine wp_apps Kd.str 9 M w.heap.size rfl _ _ 23 (.string ⟨#[]⟩) 16 rfl Try.underlying23 info_str rfl (by omega) u6 (flatTo ls k) ls[k] A' c' rfl rfl HO.out HX.out.size (fun k hk => Nat.lt_of_lt_of_le (hM k hk) HX.out.size) HC.out (by unfold flatLen at hle; omega) ?_; intro v1 w1 g1 g2 g3; have G := Sh.mk (And.intro g1 g2); clear g1 g2 g3)
          go_roundw
          case rel => exact ⟨k + 1, by omega, by go_num, ⟨by rw [HF.out]; exact G.out.1⟩, ⟨HX.out.then G.out.2 (fun i hi e => by have := HO.out.lt i e; omega)⟩⟩
          case measure => simp [intOf]; omega
        · have hkl : k = ls.length := by omega
          subst hkl
          go_wp2_with fail
          go_ret
          exact ⟨_, rfl, by have := HO.out; rw [HA.out] at this; exact this, HX.out⟩
end Go.Proofs.Ythfonlnlopmonaa

/- Layer 13: what the joints' functions answer: words, first, joints, begins, held. -/
import Derived.Test.YthfonlnlopmonaaHe
import Derived.StillTailTactics
set_option linter.unusedVariables false
set_option linter.unusedSimpArgs false
namespace Go.Proofs.Ythfonlnlopmonaa
open Go.RowKit

theorem keep2 {w W W' : World} {a1 a2 : Addr} {v1 v2 : Value} (hs : W.cell? a1 = some v1 ∧ W.cell? a2 = some v2 ∧ Sh (Ext w W)) (h : Ext W W') : W'.cell? a1 = some v1 ∧ W'.cell? a2 = some v2 ∧ Sh (Ext w W') := ⟨h.cell hs.1, h.cell hs.2.1, ⟨hs.2.2.out.trans h⟩⟩
theorem keep3 {w W W' : World} {a1 a2 a3 : Addr} {v1 v2 v3 : Value} (hs : W.cell? a1 = some v1 ∧ W.cell? a2 = some v2 ∧ W.cell? a3 = some v3 ∧ Sh (Ext w W)) (h : Ext W W') : W'.cell? a1 = some v1 ∧ W'.cell? a2 = some v2 ∧ W'.cell? a3 = some v3 ∧ Sh (Ext w W') := ⟨h.cell hs.1, h.cell hs.2.1, h.cell hs.2.2.1, ⟨hs.2.2.2.out.trans h⟩⟩
theorem cells_new (w : World) (cells : Array Value) (e : TypeId) : ∀ j u, cells.toList[j]? = some u → (w.alloc (.cells cells e)).cell? ((⟨w.heap.size, 0, none⟩ : Addr).add j) = some u := by
  intro j u hu
  have hadd : (⟨w.heap.size, 0, none⟩ : Addr).add j = ⟨w.heap.size, j, none⟩ := by unfold Addr.add; split <;> simp_all
  rw [hadd, cell_of_row _ _ j cells e (0, 0) (heap_new rfl)]
  simpa using hu
/-- two words, as Go's [2][]string -/
def kP : Kd (List ByteArray × List ByteArray) := Kd.pair (Kd.sl Kd.str) (Kd.sl Kd.str)
theorem info_P : (Try.prog.info? 34).map (fun i => (i.zero, i.size, i.bytes)) = some (some (.agg #[.slice none 0 0, .slice none 0 0]), kP.sz, 48) := by kernel_rfl
/-- a pair that is taken -/
def goodP (l : List Joint) (x a b : List ByteArray) : Bool := decide (0 < a.length) && (decide (0 < b.length) && (decide (a.length ≤ 60) && (decide (b.length ≤ 60) && decide (joinedL l a b = x))))
def tried (l : List Joint) (x : List ByteArray) (o : List (List ByteArray × List ByteArray)) (a b : List ByteArray) : List (List ByteArray × List ByteArray) := if goodP l x a b = true then o ++ [(a, b)] else o
def TryPost (B g : Nat) (W : World) (vo : Value) (o2 : List (List ByteArray × List ByteArray)) (e : Ending) (w' : World) : Prop :=
  e = .returned (.tuple #[]) ∧ ∃ vo', w'.heap[g]? = some (.cells #[vo'] 30 (0, 0)) ∧ kP.Own 34 (fun k => k = g) w' B vo' o2 ∧ Keep (fun k => k = g ∨ vo.ownBlock = some k) W w' ∧ (∀ k, vo'.ownBlock = some k → vo.ownBlock = some k ∨ W.heap.size ≤ k)
set_option maxRecDepth 100000 in
set_option maxHeartbeats 4000000 in
theorem try_calls (bl bx g B : Nat) (Al Ax Aa Ab : Option Addr) (cl cx ca cb : Nat) (l : List Joint) (x a b : List ByteArray) (vo : Value) (o : List (List ByteArray × List ByteArray)) (W : World)
    (hcl : W.cell? ⟨bl, 0, none⟩ = some (.slice Al l.length cl)) (hl : kJoint.C none' W Al l) (hcx : W.cell? ⟨bx, 0, none⟩ = some (.slice Ax x.length cx)) (hx : Kd.str.C none' W Ax x)
    (hg : W.heap[g]? = some (.cells #[vo] 30 (0, 0))) (hO : kP.Own 34 (fun k => k = g) W B vo o) (hB : B ≤ W.heap.size)
    (hca : a.length ≤ ca) (ha : Kd.str.C (fun k => k = g ∨ vo.ownBlock = some k) W Aa a) (hcb : b.length ≤ cb) (hb : Kd.str.C (fun k => k = g ∨ vo.ownBlock = some k) W Ab b)
    (hj : (joinedL l a b).length * 16 ≤ 140737488355328) (ho : (o.length + 1) * 48 ≤ 140737488355328) :
    Calls Try.prog 16 #[.slice Aa a.length ca, .slice Ab b.length cb, .pointer (some ⟨bl, 0, none⟩), .pointer (some ⟨bx, 0, none⟩), .pointer (some ⟨g, 0, none⟩)] W (TryPost B g W vo (tried l x o a b)) := by
  have HD := Sh.mk (fun (W2 : World) (h : Ext W W2) => joined_calls Al cl l Aa Ab ca cb a b none' W2 (fun k hk => hk.elim) (hl.ext h) hca ((ha.weak (fun _ _ x => x.elim)).ext h) hcb ((hb.weak (fun _ _ x => x.elim)).ext h) hj)
  have HG := Sh.mk hg
  have HO := Sh.mk hO
  have HX := Sh.mk hx
  have HA := Sh.mk ha
  have HBb := Sh.mk hb
  have hma := ha.1
  have hmb := hb.1
  have hT := Sh.mk (show tried l x o a b = if goodP l x a b = true then o ++ [(a, b)] else o from rfl)
  have hP := Sh.mk (show goodP l x a b = (decide (0 < a.length) && (decide (0 < b.length) && (decide (a.length ≤ 60) && (decide (b.length ≤ 60) && decide (joinedL l a b = x))))) from rfl)
  have hgc : W.cell? ⟨g, 0, none⟩ = some vo := cell_of_row W g 0 _ _ _ hg
  have hgf : W.frozen? ⟨g, 0, none⟩ = false := by simp [World.frozen?, hg]
  clear hg hO hx ha hb hl
  have stay : ∀ m, tried l x o a b = o → TryPost B g W vo (tried l x o a b) (.returned (.tuple #[])) (W.drewN m) := by
    intro m h
    rw [h]
    exact ⟨rfl, vo, HG.out, HO.out.ext (Dr.ext ⟨m, rfl⟩), Keep.drewN (Keep.refl _ _) _, fun k hk => .inl hk⟩
  have STAY := Sh.mk stay
  clear stay
  by_cases h1 : a.length = 0
  · have hn := Sh.mk (show tried l x o a b = o by rw [hT.out, hP.out, h1]; rfl)
    have hd : (a.length == 0) = true := by simpa using h1
    have hd2 : a = [] := List.eq_nil_of_length_eq_zero h1
    clear h1
    subst hd2
    go_enter Try.func16, Try.ntmps16
    go_wp2_with fail
    go_quiet (fail)
    go_wp2_with fail
    go_end0
    exact STAY.out _ hn.out
  · have hd1 : ((a.length : Int) == 0) = false := beq_eq_false_iff_ne.2 (by omega)
    have hp1 : 0 < a.length := by omega
    clear h1
    by_cases h2 : b.length = 0
    · have hn := Sh.mk (show tried l x o a b = o by rw [hT.out, hP.out, h2]; simp)
      have hd2 : b = [] := List.eq_nil_of_length_eq_zero h2
      clear h2
      subst hd2
      go_enter Try.func16, Try.ntmps16
      go_wp2_with fail
      go_quiet (fail)
      go_wp2_with fail
      go_end0
      exact STAY.out _ hn.out
    · have hd2 : ((b.length : Int) == 0) = false := beq_eq_false_iff_ne.2 (by omega)
      have hp2 : 0 < b.length := by omega
      clear h2
      by_cases h3 : 60 < a.length
      · have hn := Sh.mk (show tried l x o a b = o by rw [hT.out, hP.out]; simp; omega)
        have hd3 : decide (60 < a.length) = true := by simpa using h3
        have hd3' : decide ((60 : Int) < a.length) = true := by simp; omega
        clear h3
        go_enter Try.func16, Try.ntmps16
        go_wp2_with fail
        go_quiet (fail)
        go_wp2_with fail
        go_end0
        exact STAY.out _ hn.out
      · have hd3 : decide (60 < a.length) = false := by simpa using h3
        have hd3' : decide ((60 : Int) < a.length) = false := by simp; omega
        have hq3 : a.length ≤ 60 := by omega
        clear h3
        by_cases h4 : 60 < b.length
        · have hn := Sh.mk (show tried l x o a b = o by rw [hT.out, hP.out]; simp; omega)
          have hd4 : decide (60 < b.length) = true := by simpa using h4
          have hd4' : decide ((60 : Int) < b.length) = true := by simp; omega
          clear h4
          go_enter Try.func16, Try.ntmps16
          go_wp2_with fail
          go_quiet (fail)
          go_wp2_with fail
          go_end0
          exact STAY.out _ hn.out
        · have hd4 : decide (60 < b.length) = false := by simpa using h4
          have hd4' : decide ((60 : Int) < b.length) = false := by simp; omega
          have hq4 : b.length ≤ 60 := by omega
          clear h4
          have HGd := Sh.mk (show goodP l x a b = decide (joinedL l a b = x) by rw [hP.out]; simp [hp1, hp2, hq3, hq4])
          generalize hr : joinedL l a b = r at *
          clear hr
          have HEq := Sh.mk (fun (A' : Option Addr) (c' : Nat) (W2 : World) (h1 : Kd.str.C none' W2 A' r) (h : Ext W W2) => equal_str A' Ax c' cx r x none' none' W2 h1 (HX.out.ext h))
          have HTG := Sh.mk (show tried l x o a b = if decide (r = x) = true then o ++ [(a, b)] else o by rw [hT.out, HGd.out])
          clear hT hP HGd
          generalize decide (r = x) = bq at *
          have hglt : g < W.heap.size := (Array.getElem?_eq_some_iff.1 HG.out).1
          cases bq with
          | false =>
            have hn := Sh.mk (show tried l x o a b = o by rw [HTG.out]; rfl)
            clear HTG
            go_enter Try.func16, Try.ntmps16
            go_wp2_with fail
            go_region_held3 (fun w' => w'.cell? ⟨bl, 0, none⟩ = some (.slice Al l.length cl) ∧ w'.cell? ⟨bx, 0, none⟩ = some (.slice Ax x.length cx) ∧ w'.cell? ⟨g, 0, none⟩ = some vo ∧ Sh (Ext W w')) (first | exact keep3 (by assumption) (by assumption) | exact ⟨by simp [*], by simp [*], by simp [*], ⟨(Ext.refl _).drew⟩⟩) (first | (go_at_call 15; refine (HD.out _ ?_).mono ?_; exact Sh.out (And.right (And.right (And.right (by assumption)))); intro e w' h0; obtain ⟨v, rfl, h1, h⟩ := h0.out; obtain ⟨Ar, cr, rfl, hlr, hCr⟩ := h1.isSl; clear h0 h1; have HR := Sh.mk hCr; clear hCr) | (go_at_call 17; refine (HEq.out _ _ _ ?_ ?_).mono ?_; exact HR.out; exact Sh.out (And.right (And.right (And.right (by assumption)))); rintro e w' ⟨rfl, h2⟩; have h := Dr.ext h2))
            all_goals go_wp2_with fail
            all_goals go_end0
            all_goals (have HS := ‹_ ∧ _ ∧ _ ∧ Sh (Ext W _)›; rw [hn.out]; exact ⟨rfl, vo, HS.2.2.2.out.block' HG.out, HO.out.ext HS.2.2.2.out, HS.2.2.2.out.keep _, fun k hk => .inl hk⟩)
          | true =>
            have hn := Sh.mk (show tried l x o a b = o ++ [(a, b)] by rw [HTG.out]; rfl)
            clear HTG
            go_enter Try.func16, Try.ntmps16
            go_wp2_with fail
            go_region_held3 (fun w' => w'.cell? ⟨bl, 0, none⟩ = some (.slice Al l.length cl) ∧ w'.cell? ⟨bx, 0, none⟩ = some (.slice Ax x.length cx) ∧ w'.cell? ⟨g, 0, none⟩ = some vo ∧ Sh (Ext W w')) (first | exact keep3 (by assumption) (by assumption) | exact ⟨by simp [*], by simp [*], by simp [*], ⟨(Ext.refl _).drew⟩⟩) (first | (go_at_call 15; refine (HD.out _ ?_).mono ?_; exact Sh.out (And.right (And.right (And.right (by assumption)))); intro e w' h0; obtain ⟨v, rfl, h1, h⟩ := h0.out; obtain ⟨Ar, cr, rfl, hlr, hCr⟩ := h1.isSl; clear h0 h1; have HR := Sh.mk hCr; clear hCr) | (go_at_call 17; refine (HEq.out _ _ _ ?_ ?_).mono ?_; exact HR.out; exact Sh.out (And.right (And.right (And.right (by assumption)))); rintro e w' ⟨rfl, h2⟩; have h := Dr.ext h2))
            all_goals go_wp2_with (at_builtin; have X := (show _ ∧ _ ∧ _ ∧ Sh (Ext W _) from by assumption).2.2.2.out; refine wp_app kP 34 (fun k => k = g) B rfl _ _ 30 (.agg #[.slice none 0 0, .slice none 0 0]) 48 rfl Try.underlying30 info_P rfl (by omega) vo o [(a, b)] _ 1 rfl rfl (HO.out.ext (X.alloc _)) (by have := X.size; simp; omega) (fun k hk => by have := X.size; subst hk; simp; omega) [.slice Aa a.length ca, .slice Ab b.length cb] (.cons (cs := [.slice Aa a.length ca, .slice Ab b.length cb]) ⟨_, _, rfl, Kd.sl_K hca (HA.out.ext (X.alloc _)), Kd.sl_K hcb (HBb.out.ext (X.alloc _))⟩ (.nil ..)) (cells_new _ #[.slice Aa a.length ca, .slice Ab b.length cb] _) (by simpa using ho) ?_; intro v1 w1 g1 g2 g3; have hv1 : ∃ A1 n1 c1, v1 = .slice A1 n1 c1 := (g1.isSl).elim (fun A h => h.elim (fun c h => ⟨A, _, c, h.1⟩)); have hcg := g2.cell (p := ⟨g, 0, none⟩) (fun e => HO.out.1 g e rfl) ((X.alloc _).cell hgc); have hfg := (g2.frozen (p := ⟨g, 0, none⟩) (fun e => HO.out.1 g e rfl) (Nat.lt_of_lt_of_le hglt (X.alloc _).size)).trans (((X.alloc _).keep none').frozen (p := ⟨g, 0, none⟩) (fun x => x) hglt); rw [hgf] at hfg; have G := Sh.mk (And.intro g1 (And.intro g2 (And.intro g3 X))); clear g1 g2 g3 X; obtain ⟨A1, n1, c1, rfl⟩ := hv1)
            all_goals go_end0
            all_goals
              have g1 := G.out.1
              have g2 := G.out.2.1
              have g3 := G.out.2.2.1
              have X := G.out.2.2.2
              have hgo : ¬ vo.ownBlock = some g := fun e => HO.out.1 g e rfl
              rw [hn.out]
              refine ⟨rfl, .slice A1 n1 c1, heap_set (g2.block' hgo ((X.alloc _).block' HG.out)), g1.keep (Keep.setCell (M := fun k => k = g) (Keep.refl _ _) _ _ (.inl rfl)) (fun _ _ e => e), ?_, fun k hk => (g3 k hk).imp id (fun h => Nat.le_trans (X.alloc _).size h)⟩
              exact Keep.setCell (Keep.trans ((X.alloc _).keep _) g2 (fun _ _ e => .inr e)) _ _ (.inl (.inl rfl))
end Go.Proofs.Ythfonlnlopmonaa

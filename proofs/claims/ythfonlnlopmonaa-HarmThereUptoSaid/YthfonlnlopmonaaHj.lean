/- Layer 13: Unsandhi: what it gathers, and what its loops keep. -/
import Derived.Test.YthfonlnlopmonaaHi
import Derived.Test.YthfonlnlopmonaaSort
import Derived.Test.YthfonlnlopmonaaShelf
set_option linter.unusedVariables false
set_option linter.unusedSimpArgs false
namespace Go.Proofs.Ythfonlnlopmonaa
open Go.RowKit

def unJ (l : List Joint) (x : List ByteArray) (i : Nat) (o : List Pr) (j : Joint) : List Pr := if beginsB (x.drop i) j.C = true then tried l x o (x.take i ++ j.A) (j.B ++ x.drop (i + j.C.length)) else o
def unK (l : List Joint) (x : List ByteArray) (i : Nat) (o : List Pr) (k : Nat) : List Pr := (l.take k).foldl (unJ l x i) o
def unI (l : List Joint) (x : List ByteArray) (i : Nat) (o : List Pr) : List Pr := unK l x i (tried l x o (x.take i) (x.drop i)) l.length
def unTo (l : List Joint) (x : List ByteArray) (i : Nat) : List Pr := (List.range i).foldl (fun o i => unI l x i o) []
theorem unK_zero (l : List Joint) (x : List ByteArray) (i : Nat) (o : List Pr) : unK l x i o 0 = o := rfl
theorem unK_succ (l : List Joint) (x : List ByteArray) (i : Nat) (o : List Pr) (k : Nat) (h : k < l.length) : unK l x i o (k + 1) = unJ l x i (unK l x i o k) l[k] := by
  unfold unK
  rw [List.take_succ_eq_append_getElem h, List.foldl_append]
  rfl
theorem unTo_succ (l : List Joint) (x : List ByteArray) (i : Nat) : unTo l x (i + 1) = unI l x i (unTo l x i) := by
  unfold unTo
  rw [List.range_succ, List.foldl_append]
  rfl
theorem tried_len (l : List Joint) (x : List ByteArray) (o : List Pr) (a b : List ByteArray) : (tried l x o a b).length ≤ o.length + 1 := by
  unfold tried
  split <;> simp
theorem unJ_len (l : List Joint) (x : List ByteArray) (i : Nat) (o : List Pr) (j : Joint) : (unJ l x i o j).length ≤ o.length + 1 := by
  unfold unJ
  split
  · exact tried_len ..
  · omega
theorem unK_len (l : List Joint) (x : List ByteArray) (i : Nat) (o : List Pr) : ∀ k, k ≤ l.length → (unK l x i o k).length ≤ o.length + k
  | 0, _ => by rw [unK_zero]; omega
  | k + 1, h => by
    rw [unK_succ _ _ _ _ _ (by omega)]
    have := unK_len l x i o k (by omega)
    have := unJ_len l x i (unK l x i o k) l[k]
    omega
theorem unTo_len (l : List Joint) (x : List ByteArray) : ∀ i, (unTo l x i).length ≤ i * (l.length + 1)
  | 0 => by simp [unTo]
  | i + 1 => by
    rw [unTo_succ, Nat.add_mul]
    unfold unI
    have := unK_len l x i (tried l x (unTo l x i) (x.take i) (x.drop i)) l.length (Nat.le_refl _)
    have := tried_len l x (unTo l x i) (x.take i) (x.drop i)
    have := unTo_len l x i
    omega
theorem mem_tried {l : List Joint} {x : List ByteArray} {o : List Pr} {a b : List ByteArray} {p : Pr} (h : p ∈ o) : p ∈ tried l x o a b := by
  unfold tried
  split
  · exact List.mem_append_left _ h
  · exact h
theorem mem_tried_new {l : List Joint} {x : List ByteArray} {o : List Pr} {a b : List ByteArray} (h : goodP l x a b = true) : (a, b) ∈ tried l x o a b := by
  unfold tried
  rw [if_pos h]
  simp
theorem mem_unJ {l : List Joint} {x : List ByteArray} {i : Nat} {o : List Pr} {j : Joint} {p : Pr} (h : p ∈ o) : p ∈ unJ l x i o j := by
  unfold unJ
  split
  · exact mem_tried h
  · exact h
theorem mem_unK {l : List Joint} {x : List ByteArray} {i : Nat} {o : List Pr} {p : Pr} (h : p ∈ o) : ∀ k, k ≤ l.length → p ∈ unK l x i o k
  | 0, _ => h
  | k + 1, hk => by
    rw [unK_succ _ _ _ _ _ (by omega)]
    exact mem_unJ (mem_unK h k (by omega))
theorem mem_unK_at {l : List Joint} {x : List ByteArray} {i : Nat} {o : List Pr} {p : Pr} (m : Nat) (hm : m < l.length) (h : ∀ o, p ∈ unJ l x i o l[m]) : ∀ k, m < k → k ≤ l.length → p ∈ unK l x i o k
  | 0, h0, _ => absurd h0 (by omega)
  | k + 1, h0, hk => by
    rw [unK_succ _ _ _ _ _ (by omega)]
    by_cases e : k = m
    · subst e
      exact h _
    · exact mem_unJ (mem_unK_at m hm h k (by omega) (by omega))
theorem mem_unTo {l : List Joint} {x : List ByteArray} {p : Pr} (i : Nat) (h : ∀ o, p ∈ unI l x i o) : ∀ n, i < n → p ∈ unTo l x n
  | 0, h0 => absurd h0 (by omega)
  | n + 1, h0 => by
    rw [unTo_succ]
    by_cases e : n = i
    · subst e
      exact h _
    · exact mem_unK (mem_tried (mem_unTo i h n (by omega))) _ (Nat.le_refl _)
/-- what is joined has no more than its parts have, and a joint's own -/
theorem bestTo_C (a b : List ByteArray) (l : List Joint) (m : Nat) (h : ∀ j ∈ l, j.C.length ≤ m) : ∀ k, (bestTo a b l k).C.length ≤ m := by
  intro k
  by_cases hk : k ≤ l.length
  · induction k with
    | zero => simp [bestTo, zJ]
    | succ k ih =>
      rw [bestTo_succ a b l k (by omega)]
      unfold betterJ
      split
      · exact h _ (List.getElem_mem ..)
      · exact ih (by omega)
  · have : bestTo a b l k = bestTo a b l l.length := by unfold bestTo; rw [List.take_of_length_le (by omega), List.take_length]
    rw [this]
    have key : ∀ k, k ≤ l.length → (bestTo a b l k).C.length ≤ m := by
      intro k
      induction k with
      | zero => intro _; simp [bestTo, zJ]
      | succ k ih =>
        intro hk
        rw [bestTo_succ a b l k (by omega)]
        unfold betterJ
        split
        · exact h _ (List.getElem_mem ..)
        · exact ih (by omega)
    exact key _ (Nat.le_refl _)
theorem joinedL_le (l : List Joint) (a b : List ByteArray) (m : Nat) (h : ∀ j ∈ l, j.C.length ≤ m) : (joinedL l a b).length ≤ a.length + b.length + m := by
  have := bestTo_C a b l m h l.length
  unfold joinedL bestJ
  simp only [List.length_append, List.length_take, List.length_drop]
  omega
theorem firstNZ_zero : ∀ {l : List Int}, firstNZ l = 0 → ∀ x ∈ l, x = 0
  | [], _, x, hx => absurd hx (by simp)
  | y :: l, h, x, hx => by
    unfold firstNZ at h
    by_cases hy : y = 0
    · rw [if_pos hy] at h
      rcases List.mem_cons.1 hx with rfl | hx
      · exact hy
      · exact firstNZ_zero h x hx
    · rw [if_neg hy] at h
      exact absurd h hy
theorem vWord_len {a : List ByteArray} (h : vWord a = 0) : a.length ≤ 60 := by
  unfold vWord at h
  split at h
  · exact absurd h (by decide)
  · rename_i h2
    have := fun h3 => h2 (.inl h3)
    omega
theorem vJoints_len {l : List Joint} (h : vJoints l = 0) : l.length ≤ 24 ∧ ∀ j ∈ l, j.A.length ≤ 60 ∧ j.B.length ≤ 60 ∧ j.C.length ≤ 60 := by
  unfold vJoints at h
  split at h
  · exact absurd h (by decide)
  · rename_i h0
    refine ⟨by omega, fun j hj => ?_⟩
    have hz : firstNZ (l.map fun j => vWords [j.A, j.B, j.C]) = 0 := by
      split at h
      · assumption
      · exact h
    have h3 := firstNZ_zero hz _ (List.mem_map_of_mem hj)
    have h4 := firstNZ_zero (show firstNZ ([j.A, j.B, j.C].map vWord) = 0 from h3)
    exact ⟨vWord_len (h4 _ (by simp)), vWord_len (h4 _ (by simp)), vWord_len (h4 _ (by simp))⟩

/-! ### what the loops keep -/
structure Un (w : World) (g bl bx B : Nat) (vl vx : Value) (o : List Pr) (W : World) : Prop where
  row : ∃ vo, W.heap[g]? = some (.cells #[vo] 30 (0, 0)) ∧ kP.Own 34 (fun k => k = g) W B vo o
  cl : W.cell? ⟨bl, 0, none⟩ = some vl
  cx : W.cell? ⟨bx, 0, none⟩ = some vx
  ext : Ext w W
  wg : w.heap.size ≤ g
  wB : w.heap.size ≤ B
  gl : bl < g
  gx : bx < g
  gB : g < B
  size : B ≤ W.heap.size
theorem Un.more {w : World} {g bl bx B : Nat} {vl vx : Value} {o : List Pr} {W W' : World} (h : Un w g bl bx B vl vx o W) (hx : Ext W W') : Un w g bl bx B vl vx o W' := by
  obtain ⟨vo, h1, h2⟩ := h.row
  exact ⟨⟨vo, hx.block' h1, h2.ext hx⟩, hx.cell h.cl, hx.cell h.cx, h.ext.trans hx, h.wg, h.wB, h.gl, h.gx, h.gB, Nat.le_trans h.size hx.size⟩
/-- nothing that the call has laid -/
def MC (w Wc : World) (k : Nat) : Prop := w.heap.size ≤ k ∧ k < Wc.heap.size
theorem MC_weak {α : Type} {d : Kd α} {w Wc : World} {A : Option Addr} {xs : List α} (h : d.C none' w A xs) {W : World} (hw : Ext w W) : d.C (MC w Wc) W A xs :=
  (h.weak (fun k hk hM => absurd hM.1 (by omega))).ext hw
set_option maxHeartbeats 2000000 in
theorem un_try {w : World} {g bl bx B : Nat} {Al Ax : Option Addr} {cl cx : Nat} {l : List Joint} {x : List ByteArray} {o : List Pr} {Wc W : World} (h : Un w g bl bx B (.slice Al l.length cl) (.slice Ax x.length cx) o Wc) (hW : Ext Wc W)
    (hl : kJoint.C none' w Al l) (hx : Kd.str.C none' w Ax x) (Aa Ab : Option Addr) (ca cb : Nat) (a b : List ByteArray)
    (hca : a.length ≤ ca) (ha : Kd.str.C (MC w Wc) W Aa a) (hcb : b.length ≤ cb) (hb : Kd.str.C (MC w Wc) W Ab b) (hj : (joinedL l a b).length * 16 ≤ 140737488355328) (ho : (o.length + 1) * 48 ≤ 140737488355328) :
    Calls Try.prog 16 #[.slice Aa a.length ca, .slice Ab b.length cb, .pointer (some ⟨bl, 0, none⟩), .pointer (some ⟨bx, 0, none⟩), .pointer (some ⟨g, 0, none⟩)] W fun e w' => Sh (e = .returned (.tuple #[]) ∧ Un w g bl bx B (.slice Al l.length cl) (.slice Ax x.length cx) (tried l x o a b) w' ∧ Keep (MC w Wc) W w') := by
  have hU := h.more hW
  obtain ⟨vo, h1, h2⟩ := h.row
  have hM : ∀ k, (k = g ∨ vo.ownBlock = some k) → MC w Wc k := by
    rintro k (rfl | hk)
    · exact ⟨h.wg, (Array.getElem?_eq_some_iff.1 h1).1⟩
    · have := h2.lt k hk
      exact ⟨Nat.le_trans h.wB this.1, this.2⟩
  refine (try_calls bl bx g B Al Ax Aa Ab cl cx ca cb l x a b vo o W hU.cl (hl.ext hU.ext) hU.cx (hx.ext hU.ext) (hW.block' h1) (h2.ext hW) hU.size hca (ha.weak (fun k _ => hM k)) hcb (hb.weak (fun k _ => hM k)) hj ho).mono ?_
  rintro e w' ⟨he, vo', g1, g2, g3, g4⟩
  have hno : ∀ k, k < g → ¬ (k = g ∨ vo.ownBlock = some k) := by
    rintro k hk (rfl | h5)
    · omega
    · have := (h2.lt k h5).1
      have := h.gB
      omega
  refine ⟨he, ⟨⟨vo', g1, g2⟩, g3.cell (p := ⟨bl, 0, none⟩) (hno bl h.gl) hU.cl, g3.cell (p := ⟨bx, 0, none⟩) (hno bx h.gx) hU.cx, hU.ext.then g3 (fun i hi => ?_), h.wg, h.wB, h.gl, h.gx, h.gB, Nat.le_trans hU.size g3.size⟩, g3.mono (fun k _ hk => hM k hk)⟩
  exact hno i (Nat.lt_of_lt_of_le hi h.wg)
theorem own_rd {M M' : Nat → Prop} {w' : World} {B : Nat} {v : Value} {xs : List ByteArray} (h : Kd.str.Own 9 M w' B v xs) (hM : ∀ k, M' k → k < B) : ∃ A c, v = .slice A xs.length c ∧ xs.length ≤ c ∧ Kd.str.C M' w' A xs := by
  obtain ⟨A, c, rfl, hl, hC⟩ := h.isSl
  refine ⟨A, c, rfl, hl, hC.1, fun h0 => ?_⟩
  obtain ⟨ad, rfl, _, hc⟩ := hC.2 h0
  have := (h.lt ad.block rfl).1
  refine ⟨ad, rfl, fun hm => ?_, fun i hi => ?_⟩
  · have := hM _ hm
    omega
  · obtain ⟨cs, hK, hcs⟩ := hc i hi
    exact ⟨cs, hK, hcs⟩
/-- a row of the callee's own, none of it the caller's -/
def Rd (w wr W : World) (n : Nat) (xs : List ByteArray) (e : Ending) (w' : World) : Prop := ∃ A c, e = .returned (.slice A n c) ∧ n ≤ c ∧ Kd.str.C (MC w wr) w' A xs ∧ Ext W w' ∧ Ext wr w'
theorem rd_clone (w wr W : World) (hW : Ext wr W) (A : Option Addr) (c n : Nat) (xs : List ByteArray) (hn : xs.length = n) (h : Kd.str.C none' W A xs) (hb : n * 16 ≤ 140737488355328) :
    Calls Try.prog 18 #[.slice A n c] W fun e w' => Sh (Rd w wr W n xs e w') := by
  subst hn
  refine (clone_str A c xs none' W (fun k hk => hk.elim) h hb).mono ?_
  intro e w' h0
  obtain ⟨v, rfl, h1, h2⟩ := h0.out
  obtain ⟨A', c', rfl, h3, h4⟩ := own_rd h1 (M' := MC w wr) (fun k hk => Nat.lt_of_lt_of_le hk.2 hW.size)
  exact ⟨A', c', rfl, h3, h4, h2, hW.trans h2⟩
theorem rd_concat (w wr W : World) (hW : Ext wr W) (b1 : Nat) (A1 A2 : Option Addr) (n1 n2 c1 c2 : Nat) (x1 x2 : List ByteArray) (hn1 : x1.length = n1) (hn2 : x2.length = n2) (hc1 : n1 ≤ c1) (hc2 : n2 ≤ c2)
    (h1 : Kd.str.C none' W A1 x1) (h2 : Kd.str.C none' W A2 x2) (hb : (n1 + n2) * 16 ≤ 140737488355328) (hh : W.heap[b1]? = some (.cells #[.slice A1 n1 c1, .slice A2 n2 c2] 23 (0, 0))) :
    Calls Try.prog 20 #[.slice (some ⟨b1, 0, none⟩) 2 2] W fun e w' => Sh (Rd w wr W (n1 + n2) (x1 ++ x2) e w') := by
  subst hn1
  subst hn2
  have hC := Kd.C_block (d := Kd.sl Kd.str) (M := none') (xs := [x1, x2]) hh (fun x => x) (by simp) (.cons (Kd.sl_K hc1 h1) (.cons (Kd.sl_K hc2 h2) (.nil ..)))
  have hl : [x1, x2].flatten.length = x1.length + x2.length := by simp
  refine (show Calls Try.prog 20 #[.slice (some ⟨b1, 0, none⟩) [x1, x2].length 2] W _ from concat_str (some ⟨b1, 0, none⟩) 2 [x1, x2] none' W (fun k hk => hk.elim) hC (by rw [hl]; exact hb)).mono ?_
  intro e w' h0
  obtain ⟨v, rfl, h1, h2⟩ := h0.out
  obtain ⟨A', c', rfl, h3, h4⟩ := own_rd h1 (M' := MC w wr) (fun k hk => Nat.lt_of_lt_of_le hk.2 hW.size)
  rw [hl] at h3
  rw [show [x1, x2].flatten = x1 ++ x2 by simp] at h4
  refine ⟨A', c', by rw [hl], h3, h4, h2, hW.trans h2⟩
theorem un_try' {w : World} {g bl bx B : Nat} {Al Ax : Option Addr} {cl cx : Nat} {l : List Joint} {x : List ByteArray} {o : List Pr} {Wc W : World} (h : Un w g bl bx B (.slice Al l.length cl) (.slice Ax x.length cx) o Wc) (hW : Ext Wc W)
    (hl : kJoint.C none' w Al l) (hx : Kd.str.C none' w Ax x) (Aa Ab : Option Addr) (ca cb na nb : Nat) (a b : List ByteArray) (hna : a.length = na) (hnb : b.length = nb)
    (hca : na ≤ ca) (ha : Kd.str.C (MC w Wc) W Aa a) (hcb : nb ≤ cb) (hb : Kd.str.C (MC w Wc) W Ab b) (hj : (joinedL l a b).length * 16 ≤ 140737488355328) (ho : (o.length + 1) * 48 ≤ 140737488355328) :
    Calls Try.prog 16 #[.slice Aa na ca, .slice Ab nb cb, .pointer (some ⟨bl, 0, none⟩), .pointer (some ⟨bx, 0, none⟩), .pointer (some ⟨g, 0, none⟩)] W fun e w' => Sh (e = .returned (.tuple #[]) ∧ Un w g bl bx B (.slice Al l.length cl) (.slice Ax x.length cx) (tried l x o a b) w' ∧ Keep (MC w Wc) W w') := by
  subst hna
  subst hnb
  exact un_try h hW hl hx Aa Ab ca cb a b hca ha hcb hb hj ho
theorem grow_two (W : World) (o1 o2 : Obj) : (W.alloc o1).alloc o2 = Go.Sort.grow (W.drewN 0) #[o1, o2] := by
  have h : (W.heap.push o1).push o2 = W.heap ++ #[o1, o2] := by apply Array.ext'; simp
  show World.mk ((W.heap.push o1).push o2) _ _ _ _ = World.mk (W.heap ++ #[o1, o2]) _ _ _ _
  rw [h]
  rfl
theorem cmpP_swo : Go.Sort.SWO (ltOf cmpP) := by
  have h := cmpP_lin
  refine ⟨fun x => ?_, fun x y z => ?_, fun x y z => ?_⟩
  · have := (h.eq0 x x).2 rfl
    simp [ltOf, this]
  · simp only [ltOf, decide_eq_true_eq]
    exact h.trans x y z
  · simp only [ltOf, decide_eq_false_iff_not]
    intro h1 h2 h3
    by_cases h0 : cmpP x y = 0
    · have := (h.eq0 x y).1 h0
      subst this
      exact h2 h3
    · have h4 : cmpP y x < 0 := (h.anti y x).2 (by omega)
      exact h2 (h.trans y x z h4 h3)
theorem sort_calls (B : Nat) (M : Nat → Prop) (w : World) (v : Value) (xs : List Pr) (h : kP.Own 34 M w B v xs) :
    Calls Try.prog 23 #[v, .func (.func 21) #[] #[]] w fun e w' => Sh (e = .returned (.tuple #[]) ∧ ∃ ys, ys.Perm xs ∧ kP.Own 34 M w' B v ys ∧ Keep (fun k => v.ownBlock = some k) w w') := by
  refine (Kd.sort_own Try.laysSlF06_f23 kP 34 (fun w => rfl) (fun w => rfl) cmpP cmpP_swo 21 #[] (fun _ _ => rfl) h (fun W hW x y u1 u2 h1 h2 => ?_)).mono ?_
  · refine (order_calls x y _ W u1 u2 h1 h2).mono ?_
    rintro e w' ⟨rfl, o1, o2, rfl⟩
    exact ⟨rfl, 0, #[o1, o2], grow_two W o1 o2⟩
  · intro e w' h0
    obtain ⟨he, ys, h1, h2, h3, h4⟩ := h0.out
    exact ⟨he, ys, h1, h3, h4⟩
end Go.Proofs.Ythfonlnlopmonaa

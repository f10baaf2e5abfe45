/- Words that the walks share: what a step keeps of the memory, how Go's data are read (kinds), rows of the call's own. -/
import Derived.Test.YthfonlnlopmonaaProg
import Derived.Below
import Derived.Deep.Draws
import Derived.Deep.AppendLies
import Derived.Maps.AppendAt
import Derived.OwnWalk
import Derived.Laws.BytesArg
import Derived.Laws.MakeOwn
import Derived.Laws.OwnMore
import Derived.Deep.OwnRows
import Derived.Tactics
import Derived.Lib.ConvBytes
import Derived.Laws.Slices
import Derived.WalkKit
import Derived.KernelRfl
import Derived.RowKit3
import Derived.Deep.LoopGhost
import Derived.Deep.QuietTactic
import Derived.BigQuiet
import Derived.WideLaws
import Derived.Deep.DeepCutAuto
import Derived.Deep.CutBlock
import Derived.Deep.RegionHeld3
import Derived.Laws.Rows
import Derived.Lib.AppendStr
import Derived.ArgAppend
import Derived.Laws.IdiomCopy
import Derived.RowKit
import Derived.Outline
import Derived.WalkSpells
set_option linter.unusedVariables false
set_option linter.unusedSimpArgs false
namespace Go.Proofs.Ythfonlnlopmonaa
open Go.RowKit

/-- A fact that the walk's simp doesn't look into. -/
structure Sh (p : Prop) : Prop where mk :: (out : p)

/-! ### What a step keeps -/
structure Keep (M : Nat → Prop) (w w' : World) : Prop where
  os : w'.os = w.os
  tape : w'.tape = w.tape
  output : w'.output = w.output
  size : w.heap.size ≤ w'.heap.size
  block : ∀ k, k < w.heap.size → ¬ M k → w'.heap[k]? = w.heap[k]?
def none' : Nat → Prop := fun _ => False
def Ext (w w' : World) : Prop := Keep none' w w'

section
variable {M M' N : Nat → Prop} {a b c w w' : World}
theorem Keep.refl (M : Nat → Prop) (w : World) : Keep M w w := ⟨rfl, rfl, rfl, Nat.le_refl _, fun _ _ _ => rfl⟩
theorem Keep.trans (h : Keep M a b) (k : Keep N b c) (hn : ∀ i, i < a.heap.size → N i → M i) : Keep M a c :=
  ⟨k.os.trans h.os, k.tape.trans h.tape, k.output.trans h.output, Nat.le_trans h.size k.size, fun i hi hm => (k.block i (Nat.lt_of_lt_of_le hi h.size) (fun hN => hm (hn i hi hN))).trans (h.block i hi hm)⟩
theorem Keep.mono (h : Keep M a b) (hn : ∀ i, i < a.heap.size → M i → N i) : Keep N a b :=
  ⟨h.os, h.tape, h.output, h.size, fun i hi hm => h.block i hi (fun x => hm (hn i hi x))⟩
theorem Keep.alloc (h : Keep M a b) (o : Obj) : Keep M a (b.alloc o) :=
  ⟨h.os, h.tape, h.output, by simpa using Nat.le_succ_of_le h.size, fun i hi hm => (Below.heap_alloc b o i (Nat.lt_of_lt_of_le hi h.size)).trans (h.block i hi hm)⟩
theorem Keep.drew (h : Keep M a b) : Keep M a b.drew := ⟨h.os, h.tape, h.output, h.size, h.block⟩
theorem Keep.drewN (h : Keep M a b) (n : Nat) : Keep M a (b.drewN n) := ⟨h.os, h.tape, h.output, h.size, h.block⟩
theorem Keep.setCell (h : Keep M a b) (p : Addr) (v : Value) (hp : M p.block ∨ a.heap.size ≤ p.block) : Keep M a (b.setCell p v) :=
  ⟨h.os, h.tape, h.output, by simpa [World.setCell] using h.size, fun i hi hm => (Below.heap_setCell b p v i (fun e => by subst e; rcases hp with hp | hp; exact hm hp; omega)).trans (h.block i hi hm)⟩
theorem Keep.grown {row : Option Nat} (h : w.grownBy w' row) : Keep (fun k => row = some k) w w' := ⟨h.os, h.tape, h.output, h.size, fun k hk hm => h.block k hk (fun e => hm e.symm)⟩
theorem Keep.block' (h : Keep M a b) {k : Nat} (hm : ¬ M k) {o : Obj} (hk : a.heap[k]? = some o) : b.heap[k]? = some o :=
  (h.block k (Array.getElem?_eq_some_iff.1 hk).1 hm).trans hk
theorem Keep.cell (h : Keep M a b) {p : Addr} {v : Value} (hm : ¬ M p.block) (hc : a.cell? p = some v) : b.cell? p = some v :=
  (World.cell?_of_block (h.block _ (World.block_lt_of_cell? a p hc) hm)).trans hc
theorem Keep.frozen (h : Keep M a b) {p : Addr} (hm : ¬ M p.block) (hlt : p.block < a.heap.size) : b.frozen? p = a.frozen? p := World.frozen?_of_block (w := a) (h.block _ hlt hm)
theorem Ext.refl (w : World) : Ext w w := Keep.refl _ _
theorem Ext.trans (h : Ext a b) (k : Ext b c) : Ext a c := Keep.trans h k (fun _ _ x => x)
theorem Ext.alloc (h : Ext a b) (o : Obj) : Ext a (b.alloc o) := Keep.alloc h o
theorem Ext.drew (h : Ext a b) : Ext a b.drew := Keep.drew h
theorem Ext.drewN (h : Ext a b) (n : Nat) : Ext a (b.drewN n) := Keep.drewN h n
theorem Ext.set (h : Ext a b) (p : Addr) (v : Value) (hp : a.heap.size ≤ p.block) : Ext a (b.setCell p v) := Keep.setCell h p v (.inr hp)
theorem Ext.then (h : Ext a b) (k : Keep N b c) (hn : ∀ i, i < a.heap.size → ¬ N i) : Ext a c := Keep.trans h k (fun i hi x => (hn i hi x).elim)
theorem Ext.below (h : Ext a b) : Below a.heap.size a b := ⟨h.os, h.tape, h.output, h.size, fun k hk => h.block k hk (fun x => x)⟩
theorem Ext.of_below (h : Below a.heap.size a b) : Ext a b := ⟨h.os, h.tape, h.output, h.size, fun k hk _ => h.block k hk⟩
theorem Ext.keep (h : Ext a b) (M : Nat → Prop) : Keep M a b := Keep.mono h (fun _ _ x => x.elim)
theorem Ext.block' (h : Ext a b) {k : Nat} {o : Obj} (hk : a.heap[k]? = some o) : b.heap[k]? = some o := Keep.block' h (fun x => x) hk
theorem Ext.cell (h : Ext a b) {p : Addr} {v : Value} (hc : a.cell? p = some v) : b.cell? p = some v := Keep.cell h (fun x => x) hc
end
/-- orders have been drawn, no more -/
def Dr (w w' : World) : Prop := ∃ n, w' = w.drewN n
theorem Dr.refl (w : World) : Dr w w := ⟨0, rfl⟩
theorem Dr.drewN {w w' : World} (h : Dr w w') (n : Nat) : Dr w (w'.drewN n) := by obtain ⟨m, rfl⟩ := h; exact ⟨m + n, World.drewN_drewN ..⟩
theorem Dr.drew {w w' : World} (h : Dr w w') : Dr w w'.drew := h.drewN 1
theorem Dr.trans {a b c : World} (h : Dr a b) (k : Dr b c) : Dr a c := by obtain ⟨n, rfl⟩ := k; exact h.drewN n
theorem Dr.ext {w w' : World} (h : Dr w w') : Ext w w' := by obtain ⟨n, rfl⟩ := h; exact Ext.drewN (Ext.refl _) n

theorem heap_new {w : World} {o : Obj} {n : Nat} (h : n = w.heap.size) : (w.alloc o).heap[n]? = some o := by subst h; exact heap_alloc_new w o
theorem heap_old {w : World} {o o' : Obj} {n : Nat} (h : w.heap[n]? = some o') : (w.alloc o).heap[n]? = some o' := by rw [Below.heap_alloc w o n (Array.getElem?_eq_some_iff.1 h).1]; exact h

theorem heap_new_drew {w : World} {o : Obj} {n : Nat} (h : n = w.heap.size) : (w.alloc o).drew.heap[n]? = some o := heap_new h

theorem heap_set {w : World} {b j : Nat} {cs : Array Value} {t : TypeId} {fr : Nat × Nat} {v : Value} (h : w.heap[b]? = some (.cells cs t fr)) : (w.setCell ⟨b, j, none⟩ v).heap[b]? = some (.cells (cs.setIfInBounds j v) t fr) := by
  have hlt := (Array.getElem?_eq_some_iff.1 h).1
  simp [World.setCell, Array.getElem?_modify, h]
theorem heap_setN {w : World} {b : Nat} {a : Addr} {o : Obj} {v : Value} (h : w.heap[b]? = some o) (hne : b ≠ a.block) : (w.setCell a v).heap[b]? = some o := (Below.heap_setCell w a v b hne).trans h

/-! ### Kinds -/
structure Kd (α : Type) where
  sz : Nat
  pos : 0 < sz
  K : (Nat → Prop) → World → α → List Value → Prop
  len : ∀ {M w x cs}, K M w x cs → cs.length = sz
  one : ∀ {M w x cs}, K M w x cs → ∀ u ∈ cs, u.oneCell' = true
  keep : ∀ {M N : Nat → Prop} {w w' : World} {x cs}, K M w x cs → Keep N w w' → (∀ k, k < w.heap.size → N k → M k) → K M w' x cs
  weak : ∀ {M M' : Nat → Prop} {w : World} {x cs}, K M w x cs → (∀ k, k < w.heap.size → M' k → M k) → K M' w x cs

theorem add_field (ad : Addr) (n j : Nat) (h : 0 < j) : ad.add (n + j) = ⟨(ad.add n).block, (ad.add n).off + j, none⟩ := by
  unfold Addr.add
  by_cases h1 : n = 0 <;> simp [h1] <;> omega
namespace Kd
variable {α β : Type}
/-- a slice that is read: what it shows, none of it in a block of M -/
def C (d : Kd α) (M : Nat → Prop) (w : World) (A : Option Addr) (xs : List α) : Prop :=
  xs.length ≤ 140737488355328 ∧ (0 < xs.length → ∃ ad, A = some ad ∧ ¬ M ad.block ∧ ∀ i (h : i < xs.length), ∃ cs, d.K M w xs[i] cs ∧ ∀ j u, cs[j]? = some u → w.cell? (ad.add (i * d.sz + j)) = some u)
theorem C.keep {d : Kd α} {M N : Nat → Prop} {w w' : World} {A : Option Addr} {xs : List α} (h : d.C M w A xs) (hk : Keep N w w') (hn : ∀ k, k < w.heap.size → N k → M k) : d.C M w' A xs := by
  refine ⟨h.1, fun h0 => ?_⟩
  obtain ⟨ad, rfl, hm, hc⟩ := h.2 h0
  refine ⟨ad, rfl, hm, fun i hi => ?_⟩
  obtain ⟨cs, hK, hcell⟩ := hc i hi
  refine ⟨cs, d.keep hK hk hn, fun j u hu => ?_⟩
  have hcu := hcell j u hu
  refine Keep.cell hk (fun hN => hm ?_) hcu
  have hb : (ad.add (i * d.sz + j)).block = ad.block := by unfold Addr.add; split <;> rfl
  rw [hb] at hN
  refine hn _ ?_ hN
  have := World.block_lt_of_cell? w _ hcu
  rwa [hb] at this
theorem C.ext {d : Kd α} {M : Nat → Prop} {w w' : World} {A : Option Addr} {xs : List α} (h : d.C M w A xs) (hk : Ext w w') : d.C M w' A xs := h.keep hk (fun _ _ x => x.elim)
theorem C.weak {d : Kd α} {M M' : Nat → Prop} {w : World} {A : Option Addr} {xs : List α} (h : d.C M w A xs) (hn : ∀ k, k < w.heap.size → M' k → M k) : d.C M' w A xs := by
  refine ⟨h.1, fun h0 => ?_⟩
  obtain ⟨ad, rfl, hm, hc⟩ := h.2 h0
  refine ⟨ad, rfl, fun hM => hm (hn _ ?_ hM), fun i hi => ?_⟩
  · obtain ⟨cs, hK, hcell⟩ := hc 0 h0
    have hl := d.len hK
    have hp := d.pos
    have hcu := hcell 0 cs[0] (List.getElem?_eq_getElem (by omega))
    have := World.block_lt_of_cell? w _ hcu
    simpa [Addr.add] using this
  · obtain ⟨cs, hK, hcell⟩ := hc i hi
    exact ⟨cs, d.weak hK hn, hcell⟩
theorem C.nil (d : Kd α) (M : Nat → Prop) (w : World) (A : Option Addr) : d.C M w A [] := ⟨by simp, fun h => absurd h (by simp)⟩
/-- element i -/
theorem C.at {d : Kd α} {M : Nat → Prop} {w : World} {A : Option Addr} {xs : List α} (h : d.C M w A xs) (i : Nat) (hi : i < xs.length) :
    ∃ ad cs, A = some ad ∧ ¬ M ad.block ∧ d.K M w xs[i] cs ∧ ∀ j u, cs[j]? = some u → w.cell? (ad.add (i * d.sz + j)) = some u := by
  obtain ⟨ad, rfl, hm, hc⟩ := h.2 (by omega)
  obtain ⟨cs, hK, hcell⟩ := hc i hi
  exact ⟨ad, cs, rfl, hm, hK, hcell⟩
theorem add_add (a : Addr) (m n : Nat) : (a.add m).add n = a.add (m + n) := by
  unfold Addr.add
  by_cases h1 : m = 0 <;> by_cases h2 : n = 0 <;> simp [h1, h2]
  omega
theorem C.drop {d : Kd α} {M : Nat → Prop} {w : World} {ad : Addr} {xs : List α} (h : d.C M w (some ad) xs) (k : Nat) : d.C M w (some (ad.add (k * d.sz))) (xs.drop k) := by
  refine ⟨by simp; have := h.1; omega, fun h0 => ?_⟩
  have h0' : 0 < xs.length := by simp at h0; omega
  obtain ⟨ad', e, hm, hc⟩ := h.2 h0'
  cases e
  refine ⟨_, rfl, ?_, fun i hi => ?_⟩
  · have hb : (ad.add (k * d.sz)).block = ad.block := by unfold Addr.add; split <;> rfl
    rwa [hb]
  · have hi' : k + i < xs.length := by simp at hi; omega
    obtain ⟨cs, hK, hcell⟩ := hc (k + i) hi'
    refine ⟨cs, by simpa using hK, fun j u hu => ?_⟩
    rw [add_add]
    have := hcell j u hu
    rwa [Nat.add_mul, Nat.add_assoc] at this
theorem C.take {d : Kd α} {M : Nat → Prop} {w : World} {A : Option Addr} {xs : List α} (h : d.C M w A xs) (k : Nat) : d.C M w A (xs.take k) := by
  refine ⟨by simp; have := h.1; omega, fun h0 => ?_⟩
  have h0' : 0 < xs.length := by simp at h0; omega
  obtain ⟨ad, e, hm, hc⟩ := h.2 h0'
  refine ⟨ad, e, hm, fun i hi => ?_⟩
  have hi' : i < xs.length := by simp at hi; omega
  obtain ⟨cs, hK, hcell⟩ := hc i hi'
  exact ⟨cs, by simpa using hK, hcell⟩

/-- what is left behind 's[k:]', as the machine tells its address -/
theorem C.cut {d : Kd α} {M : Nat → Prop} {w : World} {A : Option Addr} {xs : List α} (h : d.C M w A xs) (k cap : Nat) (hk : k ≤ xs.length) (hc : xs.length ≤ cap) : d.C M w (if cap = k then A else A.map fun x => x.add (k * d.sz)) (xs.drop k) := by
  by_cases e : cap = k
  · rw [if_pos e, List.drop_of_length_le (by omega)]
    exact C.nil ..
  · rw [if_neg e]
    cases A with
    | none =>
      have : xs = [] := by
        by_cases h0 : 0 < xs.length
        · obtain ⟨ad, e, _⟩ := h.2 h0
          cases e
        · exact List.eq_nil_of_length_eq_zero (by omega)
      subst this
      rw [List.drop_nil]
      exact C.nil ..
    | some ad => exact h.drop k

/-- a slice's value -/
def IsSl (d : Kd α) (M : Nat → Prop) (w : World) (xs : List α) (v : Value) : Prop := ∃ A c, v = .slice A xs.length c ∧ xs.length ≤ c ∧ d.C M w A xs
theorem IsSl.keep {d : Kd α} {M N : Nat → Prop} {w w' : World} {v : Value} {xs : List α} (h : d.IsSl M w xs v) (hk : Keep N w w') (hn : ∀ k, k < w.heap.size → N k → M k) : d.IsSl M w' xs v := by
  obtain ⟨A, c, e, l, h⟩ := h
  exact ⟨A, c, e, l, h.keep hk hn⟩
theorem IsSl.ext {d : Kd α} {M : Nat → Prop} {w w' : World} {v : Value} {xs : List α} (h : d.IsSl M w xs v) (hk : Ext w w') : d.IsSl M w' xs v := h.keep hk (fun _ _ x => x.elim)
theorem IsSl.weak {d : Kd α} {M M' : Nat → Prop} {w : World} {v : Value} {xs : List α} (h : d.IsSl M w xs v) (hn : ∀ k, k < w.heap.size → M' k → M k) : d.IsSl M' w xs v := by
  obtain ⟨A, c, e, l, h⟩ := h
  exact ⟨A, c, e, l, h.weak hn⟩
theorem IsSl.nil (d : Kd α) (M : Nat → Prop) (w : World) : d.IsSl M w [] (.slice none 0 0) := ⟨none, 0, rfl, Nat.le_refl _, C.nil ..⟩

/-- a struct as a value -/
def Agg (d : Kd α) (M : Nat → Prop) (w : World) (x : α) (v : Value) : Prop := ∃ cs, d.K M w x cs ∧ v = .agg cs.toArray
theorem Agg.ext {d : Kd α} {M : Nat → Prop} {w w' : World} {x : α} {v : Value} (h : d.Agg M w x v) (hk : Ext w w') : d.Agg M w' x v := by obtain ⟨cs, h1, h2⟩ := h; exact ⟨cs, d.keep h1 hk (fun _ _ x => x.elim), h2⟩

def scalar (enc : α → Value) (h1 : ∀ x, (enc x).oneCell' = true) : Kd α where
  sz := 1
  pos := by omega
  K := fun _ _ x cs => cs = [enc x]
  len := fun h => by subst h; rfl
  one := fun h u hu => by subst h; simp at hu; subst hu; exact h1 _
  keep := fun h _ _ => h
  weak := fun h _ => h
def int (k : IntKind) : Kd Int := scalar (Value.int k) (fun _ => rfl)
def bool : Kd Bool := scalar Value.bool (fun _ => rfl)
def str : Kd ByteArray where
  sz := 1
  pos := by omega
  K := fun _ _ x cs => cs = [.string x] ∧ x.size ≤ 140737488355328
  len := fun h => by obtain ⟨rfl, _⟩ := h; rfl
  one := fun h u hu => by obtain ⟨rfl, _⟩ := h; simp at hu; subst hu; rfl
  keep := fun h _ _ => h
  weak := fun h _ => h
def sl (d : Kd α) : Kd (List α) where
  sz := 1
  pos := by omega
  K := fun M w xs cs => ∃ v, cs = [v] ∧ d.IsSl M w xs v
  len := fun h => by obtain ⟨v, rfl, _⟩ := h; rfl
  one := fun h u hu => by obtain ⟨v, rfl, A, c, rfl, _⟩ := h; simp at hu; subst hu; rfl
  keep := fun h hk hn => by obtain ⟨v, e, h⟩ := h; exact ⟨v, e, h.keep hk hn⟩
  weak := fun h hn => by obtain ⟨v, e, h⟩ := h; exact ⟨v, e, h.weak hn⟩
def pair (a : Kd α) (b : Kd β) : Kd (α × β) where
  sz := a.sz + b.sz
  pos := by have := a.pos; omega
  K := fun M w x cs => ∃ c1 c2, cs = c1 ++ c2 ∧ a.K M w x.1 c1 ∧ b.K M w x.2 c2
  len := fun h => by obtain ⟨c1, c2, rfl, h1, h2⟩ := h; simp [a.len h1, b.len h2]
  one := fun h u hu => by obtain ⟨c1, c2, rfl, h1, h2⟩ := h; rcases List.mem_append.1 hu with hu | hu; exact a.one h1 u hu; exact b.one h2 u hu
  keep := fun h hk hn => by obtain ⟨c1, c2, e, h1, h2⟩ := h; exact ⟨c1, c2, e, a.keep h1 hk hn, b.keep h2 hk hn⟩
  weak := fun h hn => by obtain ⟨c1, c2, e, h1, h2⟩ := h; exact ⟨c1, c2, e, a.weak h1 hn, b.weak h2 hn⟩
def iso (d : Kd α) (f : β → α) : Kd β where
  sz := d.sz
  pos := d.pos
  K := fun M w x cs => d.K M w (f x) cs
  len := d.len
  one := d.one
  keep := d.keep
  weak := d.weak

/-- elements of one cell -/
theorem at_scalar {enc : α → Value} {h1 : ∀ x, (enc x).oneCell' = true} {M : Nat → Prop} {w : World} {A : Option Addr} {xs : List α} (h : (scalar enc h1).C M w A xs) (i : Nat) (hi : i < xs.length) :
    ∃ ad, A = some ad ∧ w.cell? (ad.add i) = some (enc xs[i]) := by
  obtain ⟨ad, cs, rfl, _, hK, hc⟩ := h.at i hi
  have : cs = [enc xs[i]] := hK
  subst this
  have := hc 0 _ rfl
  exact ⟨ad, rfl, by simpa [scalar] using this⟩
theorem at_str {M : Nat → Prop} {w : World} {A : Option Addr} {xs : List ByteArray} (h : str.C M w A xs) (i : Nat) (hi : i < xs.length) : ∃ ad, A = some ad ∧ w.cell? (ad.add i) = some (.string xs[i]) ∧ xs[i].size ≤ 140737488355328 := by
  obtain ⟨ad, cs, rfl, _, ⟨rfl, hs⟩, hc⟩ := h.at i hi
  have := hc 0 _ rfl
  exact ⟨ad, rfl, by simpa [str] using this, hs⟩
theorem str_sizes {M : Nat → Prop} {w : World} {A : Option Addr} {xs : List ByteArray} (h : str.C M w A xs) : ∀ s ∈ xs, s.size ≤ 140737488355328 := by
  intro s hs
  obtain ⟨i, hi, rfl⟩ := List.mem_iff_getElem.1 hs
  obtain ⟨_, _, _, hs⟩ := at_str h i hi
  exact hs
theorem at_int {k : IntKind} {M : Nat → Prop} {w : World} {A : Option Addr} {xs : List Int} (h : (int k).C M w A xs) (i : Nat) (hi : i < xs.length) : ∃ ad, A = some ad ∧ w.cell? (ad.add i) = some (.int k xs[i]) := at_scalar h i hi
theorem at_bool {M : Nat → Prop} {w : World} {A : Option Addr} {xs : List Bool} (h : bool.C M w A xs) (i : Nat) (hi : i < xs.length) : ∃ ad, A = some ad ∧ w.cell? (ad.add i) = some (.bool xs[i]) := at_scalar h i hi
theorem at_sl {d : Kd α} {M : Nat → Prop} {w : World} {A : Option Addr} {xs : List (List α)} (h : (sl d).C M w A xs) (i : Nat) (hi : i < xs.length) :
    ∃ ad A' c, A = some ad ∧ w.cell? (ad.add i) = some (.slice A' xs[i].length c) ∧ xs[i].length ≤ c ∧ d.C M w A' xs[i] := by
  obtain ⟨ad, cs, rfl, _, ⟨v, rfl, A', c, rfl, hl, hC⟩, hc⟩ := h.at i hi
  have := hc 0 _ rfl
  exact ⟨ad, A', c, rfl, by simpa [sl] using this, hl, hC⟩

/-! ### Elements side by side -/
def Parts (d : Kd α) (M : Nat → Prop) (w : World) : List α → List Value → Prop
  | [], cells => cells = []
  | x :: xs, cells => ∃ cs rest, cells = cs ++ rest ∧ d.K M w x cs ∧ Parts d M w xs rest
theorem Parts.len {d : Kd α} {M : Nat → Prop} {w : World} : ∀ {xs : List α} {cells : List Value}, d.Parts M w xs cells → cells.length = xs.length * d.sz
  | [], cells, h => by have : cells = [] := h; simp [this]
  | x :: xs, cells, h => by obtain ⟨cs, rest, rfl, hk, hr⟩ := h; simp [d.len hk, Parts.len hr, Nat.add_mul]; omega
theorem Parts.one {d : Kd α} {M : Nat → Prop} {w : World} : ∀ {xs : List α} {cells : List Value}, d.Parts M w xs cells → ∀ u ∈ cells, u.oneCell' = true
  | [], cells, h => by have : cells = [] := h; simp [this]
  | x :: xs, cells, h => by obtain ⟨cs, rest, rfl, hk, hr⟩ := h; intro u hu; rcases List.mem_append.1 hu with hu | hu; exact d.one hk u hu; exact Parts.one hr u hu
theorem Parts.keep {d : Kd α} {M N : Nat → Prop} {w w' : World} : ∀ {xs : List α} {cells : List Value}, d.Parts M w xs cells → Keep N w w' → (∀ k, k < w.heap.size → N k → M k) → d.Parts M w' xs cells
  | [], _, h, _, _ => h
  | x :: xs, cells, h, hk, hn => by obtain ⟨cs, rest, e, h1, hr⟩ := h; exact ⟨cs, rest, e, d.keep h1 hk hn, Parts.keep hr hk hn⟩
theorem Parts.weak {d : Kd α} {M M' : Nat → Prop} {w : World} : ∀ {xs : List α} {cells : List Value}, d.Parts M w xs cells → (∀ k, k < w.heap.size → M' k → M k) → d.Parts M' w xs cells
  | [], _, h, _ => h
  | x :: xs, cells, h, hn => by obtain ⟨cs, rest, e, h1, hr⟩ := h; exact ⟨cs, rest, e, d.weak h1 hn, Parts.weak hr hn⟩
theorem Parts.app {d : Kd α} {M : Nat → Prop} {w : World} : ∀ {xs ys : List α} {c1 c2 : List Value}, d.Parts M w xs c1 → d.Parts M w ys c2 → d.Parts M w (xs ++ ys) (c1 ++ c2)
  | [], ys, c1, c2, h, h2 => by have : c1 = [] := h; simpa [this] using h2
  | x :: xs, ys, c1, c2, h, h2 => by obtain ⟨cs, rest, rfl, h1, hr⟩ := h; exact ⟨cs, rest ++ c2, by simp, h1, Parts.app hr h2⟩
theorem Parts.get {d : Kd α} {M : Nat → Prop} {w : World} : ∀ {xs : List α} {cells : List Value}, d.Parts M w xs cells → ∀ i (h : i < xs.length), ∃ cs, d.K M w xs[i] cs ∧ ∀ j u, cs[j]? = some u → cells[i * d.sz + j]? = some u
  | [], _, _, i, h => absurd h (by simp)
  | x :: xs, cells, h, i, hi => by
    obtain ⟨cs, rest, rfl, h1, hr⟩ := h
    cases i with
    | zero => exact ⟨cs, h1, fun j u hu => by rw [Nat.zero_mul, Nat.zero_add, List.getElem?_append_left (List.getElem?_eq_some_iff.1 hu).1]; exact hu⟩
    | succ i =>
      obtain ⟨cs', hk, hc⟩ := Parts.get hr i (by simpa using hi)
      refine ⟨cs', by simpa using hk, fun j u hu => ?_⟩
      have hl := d.len h1
      rw [List.getElem?_append_right (by rw [hl, Nat.add_mul]; omega), hl]
      have := hc j u hu
      rwa [show (i + 1) * d.sz + j - d.sz = i * d.sz + j by rw [Nat.add_mul]; omega]
theorem Parts.take {d : Kd α} {M : Nat → Prop} {w : World} : ∀ {xs : List α} {cells : List Value} (n : Nat), d.Parts M w xs cells → d.Parts M w (xs.take n) (cells.take (n * d.sz))
  | [], cells, n, h => by have : cells = [] := h; simp [this, Parts]
  | x :: xs, cells, 0, h => by simp [Parts]
  | x :: xs, cells, n + 1, h => by
    obtain ⟨cs, rest, rfl, h1, hr⟩ := h
    refine ⟨cs, rest.take (n * d.sz), ?_, h1, Parts.take n hr⟩
    have hl := d.len h1
    rw [List.take_append, List.take_of_length_le (by rw [hl, Nat.add_mul]; omega), hl, show (n + 1) * d.sz - d.sz = n * d.sz by rw [Nat.add_mul]; omega]
/-- what a slice shows, as cells -/
theorem C.parts {d : Kd α} {M : Nat → Prop} {w : World} {ad : Addr} : ∀ {xs : List α}, d.C M w (some ad) xs → ∃ cells, d.Parts M w xs cells ∧ ∀ j u, cells[j]? = some u → w.cell? (ad.add j) = some u := by
  intro xs h
  have key : ∀ (ys : List α) (k : Nat), ys = xs.drop k → ∃ cells, d.Parts M w ys cells ∧ ∀ j u, cells[j]? = some u → w.cell? (ad.add (k * d.sz + j)) = some u := by
    intro ys
    induction ys with
    | nil => exact fun k _ => ⟨[], rfl, fun j u hu => by simp at hu⟩
    | cons y ys ih =>
      intro k hk
      have hlt : k < xs.length := by
        have : (xs.drop k).length = (y :: ys).length := by rw [hk]
        simp at this
        omega
      obtain ⟨ad', cs, e, _, hK, hc⟩ := h.at k hlt
      cases e
      have hd : xs.drop k = xs[k] :: xs.drop (k + 1) := List.drop_eq_getElem_cons hlt
      rw [hd] at hk
      injection hk with h1 h2
      obtain ⟨rest, hP, hr⟩ := ih (k + 1) h2
      subst h1
      refine ⟨cs ++ rest, ⟨cs, rest, rfl, hK, hP⟩, fun j u hu => ?_⟩
      have hl := d.len hK
      by_cases hj : j < cs.length
      · rw [List.getElem?_append_left hj] at hu
        exact hc j u hu
      · rw [List.getElem?_append_right (by omega)] at hu
        have := hr _ u hu
        rwa [show (k + 1) * d.sz + (j - cs.length) = k * d.sz + j by rw [Nat.add_mul]; omega] at this
  obtain ⟨cells, h1, h2⟩ := key xs 0 (by simp)
  exact ⟨cells, h1, by simpa using h2⟩

/-- a block's cells, read as a slice from its head -/
theorem C_block {d : Kd α} {M : Nat → Prop} {w : World} {b : Nat} {cells : Array Value} {e : TypeId} {fr : Nat × Nat} {xs : List α} (hb : w.heap[b]? = some (.cells cells e fr)) (hm : ¬ M b) (hl : xs.length ≤ 140737488355328) (hP : d.Parts M w xs cells.toList) : d.C M w (some ⟨b, 0, none⟩) xs := by
  refine ⟨hl, fun _ => ⟨_, rfl, hm, fun i hi => ?_⟩⟩
  obtain ⟨cs, hK, hc⟩ := hP.get i hi
  refine ⟨cs, hK, fun j u hu => ?_⟩
  have := hc j u hu
  have hadd : (⟨b, 0, none⟩ : Addr).add (i * d.sz + j) = ⟨b, i * d.sz + j, none⟩ := by unfold Addr.add; split <;> simp_all
  rw [hadd, cell_of_row w b _ cells e fr hb]
  simpa using this
theorem Parts.nil (d : Kd α) (M : Nat → Prop) (w : World) : d.Parts M w [] [] := rfl
theorem Parts.cons {d : Kd α} {M : Nat → Prop} {w : World} {x : α} {xs : List α} {cs rest : List Value} (h : d.K M w x cs) (hr : d.Parts M w xs rest) : d.Parts M w (x :: xs) (cs ++ rest) := ⟨cs, rest, rfl, h, hr⟩
theorem sl_K {d : Kd α} {M : Nat → Prop} {w : World} {A : Option Addr} {c : Nat} {xs : List α} (hl : xs.length ≤ c) (h : d.C M w A xs) : (sl d).K M w xs [.slice A xs.length c] := ⟨_, rfl, A, c, rfl, hl, h⟩

/-! ### A row of the call's own -/
/-- the row lies in a block from B on, which is none of M's; its elements lead to no block of M, nor to the row itself -/
def Own (d : Kd α) (e : TypeId) (M : Nat → Prop) (w : World) (B : Nat) (v : Value) (xs : List α) : Prop :=
  (∀ g, v.ownBlock = some g → ¬ M g) ∧ xs.length ≤ 140737488355328 ∧ ∃ cells, w.ownsRow B e d.sz v xs.length cells ∧ d.Parts (fun k => M k ∨ v.ownBlock = some k) w xs cells
section
variable {d : Kd α} {e : TypeId} {M N : Nat → Prop} {w w' : World} {B : Nat} {v : Value} {xs : List α}
theorem Own.nil (d : Kd α) (e : TypeId) (M : Nat → Prop) (w : World) (B : Nat) : d.Own e M w B (.slice none 0 0) [] :=
  ⟨fun g hg => by simp [Value.ownBlock] at hg, by simp, [], World.ownsRow_nil .., rfl⟩
theorem Own.lt (h : d.Own e M w B v xs) : ∀ k, v.ownBlock = some k → B ≤ k ∧ k < w.heap.size := by
  obtain ⟨_, _, cells, ho, _⟩ := h
  exact ho.lt
theorem Own.keep (h : d.Own e M w B v xs) (hk : Keep N w w') (hn : ∀ k, k < w.heap.size → N k → M k) : d.Own e M w' B v xs := by
  obtain ⟨hm, hlen, cells, ho, hp⟩ := h
  refine ⟨hm, hlen, cells, ?_, hp.keep hk (fun k hlt hN => .inl (hn k hlt hN))⟩
  refine ⟨ho.1, ?_⟩
  rcases ho.2 with h2 | ⟨g, cap, cur, rfl, hg, hh, r⟩
  · exact .inl h2
  · exact .inr ⟨g, cap, cur, rfl, hg, hk.block' (fun hN => hm g (by simp [Value.ownBlock]) (hn g (Array.getElem?_eq_some_iff.1 hh).1 hN)) hh, r⟩
theorem Own.ext (h : d.Own e M w B v xs) (hk : Ext w w') : d.Own e M w' B v xs := h.keep hk (fun _ _ x => x.elim)
theorem Own.low {B' : Nat} (h : d.Own e M w B v xs) (hB : B' ≤ B) : d.Own e M w B' v xs := by
  obtain ⟨hm, hlen, cells, ho, hp⟩ := h
  refine ⟨hm, hlen, cells, ⟨ho.1, ?_⟩, hp⟩
  rcases ho.2 with h2 | ⟨g, cap, cur, rfl, hg, r⟩
  · exact .inl h2
  · exact .inr ⟨g, cap, cur, rfl, Nat.le_trans hB hg, r⟩
theorem Own.isSl (h : d.Own e M w B v xs) : d.IsSl M w xs v := by
  obtain ⟨hm, hlen, cells, ho, hp⟩ := h
  rcases ho.2 with ⟨rfl, h0⟩ | ⟨g, cap, cur, rfl, hg, hh, hc, hcm, hs, ht⟩
  · obtain rfl : xs = [] := List.eq_nil_of_length_eq_zero h0
    exact IsSl.nil ..
  · refine ⟨_, cap, rfl, hc, hlen, fun _ => ⟨_, rfl, hm g (by simp [Value.ownBlock]), fun i hi => ?_⟩⟩
    obtain ⟨cs, hK, hcs⟩ := hp.get i hi
    exact ⟨cs, d.weak hK (fun _ _ x => .inl x), fun j u hu => ho.cells (by simp [Value.ownBlock]) _ u (hcs j u hu)⟩
end
end Kd

/-! ### append -/
section
variable {P : Program} {ops : Array Oper} {rest : List Oper} {o : Oper} {a : Act} {Q : Exit → Act → World → Prop} {α : Type}
/-- append(v, ys..): v a row of the call's own; ys lie at 'ad' -/
theorem wp_app {W : World} (d : Kd α) (e : TypeId) (M : Nat → Prop) (B : Nat) (hgd : o.guard = none) (s x : Operand) (t : TypeId) (z : Value) (bytes : Nat)
    (ho : o.op = .call { callee := .builtin .append, args := #[s, x], argTypes := #[t, t] })
    (ht : P.underlying t = some (.slice e)) (hinfo : (P.info? e).map (fun i => (i.zero, i.size, i.bytes)) = some (some z, d.sz, bytes)) (hz : z.cells.size = d.sz) (hb0 : 0 < bytes)
    (v : Value) (xs ys : List α) (ad : Addr) (c : Nat) (hs : a.eval s = v) (hx : a.eval x = .slice (some ad) ys.length c)
    (HO : d.Own e M W B v xs) (hB : B ≤ W.heap.size) (hM : ∀ k, M k → k < W.heap.size) (news : List Value) (HP : d.Parts (fun k => M k ∨ v.ownBlock = some k) W ys news) (hc : ∀ j u, news[j]? = some u → W.cell? (ad.add j) = some u)
    (hl : (xs.length + ys.length) * bytes ≤ 140737488355328)
    (h : ∀ v1 w1, d.Own e M w1 B v1 (xs ++ ys) → Keep (fun k => v.ownBlock = some k) W w1 → (∀ g, v1.ownBlock = some g → v.ownBlock = some g ∨ W.heap.size ≤ g) → wpList P ops Q rest (a.put o.dst v1) w1) :
    wpList P ops Q (o :: rest) a W := by
  obtain ⟨i0, hi, hzz⟩ := Option.map_eq_some_iff.1 hinfo
  simp only [Prod.mk.injEq] at hzz
  obtain ⟨hz0, hz1, hz2⟩ := hzz
  obtain ⟨hm, hlx, cells, hown, hP⟩ := HO
  have hlen : xs.length + ys.length ≤ 140737488355328 := Nat.le_trans (Nat.le_mul_of_pos_right _ hb0) hl
  refine wpList_append_own_at W hgd s x t ho B e i0 z d.sz bytes ht hi hz0 hz1 hz2 hz d.pos v xs.length cells hs hown ad ys.length c news hx HP.len hc HP.one (by simp only [maxLen]; omega) hl hB ?_
  intro v1 w1 h1 h2 h3 h4
  refine h v1 w1 ⟨fun g hg hMg => ?_, by simpa using hlen, cells ++ news, by simpa using h1, ?_⟩ (Keep.grown h2) (fun g hg => ?_)
  · rcases h4 with h4 | h4
    · rw [h4] at hg; exact hm g hg hMg
    · rw [h4] at hg; injection hg with hg; subst hg; have := hM _ hMg; omega
  · have hk := Keep.grown h2
    have hp1 := (hP.app HP).keep hk (fun k _ e => .inr e)
    rcases h4 with h4 | h4
    · rw [h4]; exact hp1
    · refine ((hP.app HP).weak (M' := fun k => M k ∨ v.ownBlock = some k ∨ v1.ownBlock = some k) (fun k hlt hk => ?_)).keep hk (fun k _ e => .inr (.inl e)) |>.weak (fun k _ hk => ?_)
      · rcases hk with hk | hk | hk
        · exact .inl hk
        · exact .inr hk
        · rw [h4] at hk; injection hk with hk; omega
      · rcases hk with hk | hk
        · exact .inl hk
        · exact .inr (.inr hk)
  · rcases h4 with h4 | h4
    · rw [h4] at hg; exact .inl hg
    · rw [h4] at hg; injection hg with hg; subst hg; exact .inr (Nat.le_refl _)
/-- append(v, ys...): v a row of the call's own, ys a slice that is read -/
theorem wp_apps {W : World} (d : Kd α) (e : TypeId) (M : Nat → Prop) (B : Nat) (hgd : o.guard = none) (s x : Operand) (t : TypeId) (z : Value) (bytes : Nat)
    (ho : o.op = .call { callee := .builtin .append, args := #[s, x], argTypes := #[t, t] })
    (ht : P.underlying t = some (.slice e)) (hinfo : (P.info? e).map (fun i => (i.zero, i.size, i.bytes)) = some (some z, d.sz, bytes)) (hz : z.cells.size = d.sz) (hb0 : 0 < bytes)
    (v : Value) (xs ys : List α) (A : Option Addr) (c : Nat) (hs : a.eval s = v) (hx : a.eval x = .slice A ys.length c)
    (HO : d.Own e M W B v xs) (hB : B ≤ W.heap.size) (hM : ∀ k, M k → k < W.heap.size) (HC : d.C (fun k => M k ∨ v.ownBlock = some k) W A ys)
    (hl : (xs.length + ys.length) * bytes ≤ 140737488355328)
    (h : ∀ v1 w1, d.Own e M w1 B v1 (xs ++ ys) → Keep (fun k => v.ownBlock = some k) W w1 → (∀ g, v1.ownBlock = some g → v.ownBlock = some g ∨ W.heap.size ≤ g) → wpList P ops Q rest (a.put o.dst v1) w1) :
    wpList P ops Q (o :: rest) a W := by
  cases A with
  | some ad =>
    obtain ⟨news, HP, hc⟩ := HC.parts
    exact wp_app d e M B hgd s x t z bytes ho ht hinfo hz hb0 v xs ys ad c hs hx HO hB hM news HP hc hl h
  | none =>
    have hy : ys = [] := by
      by_cases h0 : 0 < ys.length
      · obtain ⟨ad, e, _⟩ := HC.2 h0
        cases e
      · exact List.eq_nil_of_length_eq_zero (by omega)
    subst hy
    have HO' := HO
    obtain ⟨i0, hi, hzz⟩ := Option.map_eq_some_iff.1 hinfo
    simp only [Prod.mk.injEq] at hzz
    obtain ⟨hz0, hz1, hz2⟩ := hzz
    obtain ⟨hm, hlx, cells, hown, hP⟩ := HO
    refine wpList_plain hgd fun K hK => ?_
    have hfin := hK _ _ (h v W (by simpa using HO') (Keep.refl _ _) (fun g hg => .inl hg))
    have hrun : (Builtin.append_ #[t, t] o.type #[v, .slice none 0 c]).run P W = .ok v W := by
      rcases hown.2 with ⟨rfl, h0⟩ | ⟨g, cap, cur, rfl, hg, hh, hc, hcm, hsz, htk⟩
      · simp [Builtin.append_, run_underlying ht, sizeOf, typeInfo, hi, Builtin.lenOf, Builtin.firstCells, loadCells, loadCellsFrom]
      · simp [Builtin.append_, run_underlying ht, sizeOf, typeInfo, hi, Builtin.lenOf, Builtin.firstCells, loadCells, loadCellsFrom, hc, storeCells]
    unfold Oper.wp
    simp [execOp, ho, resolve, invoke, builtin, hs, hx, hrun, Result.andThen]
    exact hfin
/-- append(nil, make([]T, m)...), 0 < m -/
theorem wp_grow_nil {W : World} (hgd : o.guard = none) (s x : Operand) (t ti e : TypeId) (z : Value) (size bytes : Nat)
    (ho : o.op = .call { callee := .builtin .append, args := #[s, x], argTypes := #[t, ti] })
    (ht : P.underlying t = some (.slice e)) (hti : P.underlying ti = some (.int .i64)) (hinfo : (P.info? e).map (fun i => (i.zero, i.size, i.bytes)) = some (some z, size, bytes)) (hzs : z.cells.size = size) (hsz : 0 < size) (hb0 : 0 < bytes)
    (m : Nat) (hs : a.eval s = .slice none 0 0) (hx : a.eval x = .int .i64 m) (hm : 0 < m) (hbytes : m * bytes ≤ 140737488355328)
    (h : ∀ cap cur, m ≤ cap → cap ≤ maxLen → cur.size = cap * size → wpList P ops Q rest (a.put o.dst (.slice (some ⟨W.heap.size, 0, none⟩) m cap)) (W.drew.alloc (.cells cur e))) :
    wpList P ops Q (o :: rest) a W := by
  obtain ⟨i, hi, hzz⟩ := Option.map_eq_some_iff.1 hinfo
  simp only [Prod.mk.injEq] at hzz
  obtain ⟨hz, hsize, hby⟩ := hzz
  subst hsize
  subst hby
  have hle : m ≤ 140737488355328 := Nat.le_trans (Nat.le_mul_of_pos_right _ hb0) hbytes
  have hw : IntKind.i64.wrap (m : Int) = m := by rw [IntKind.wrap_i64]; omega
  have hneg : ¬ ((m : Int) < 0) := by omega
  have hbig : ¬ (281474976710656 < (m : Int) * (i.bytes : Int)) := by
    rw [← Int.natCast_mul]
    omega
  have hm0 : ¬ (m = 0) := by omega
  have hmz : ¬ (m * i.size = 0) := Nat.mul_ne_zero hm0 (by omega)
  have h63' : ¬ (9223372036854775807 < (m : Int)) := by omega
  have hfit := growslice_fits (need := m) (old := 0) (by omega) hbytes
  have hrun : (Builtin.append_ #[t, ti] o.type #[.slice none 0 0, .int .i64 m]).run P W = .ok (.slice (some ⟨W.heap.size, 0, none⟩) m (grownCap W m 0 e)) (W.drew.alloc (.cells (Builtin.zeroCells z.cells m ++ Builtin.zeroCells z.cells (grownCap W m 0 e - m)) e)) := by
    have h48' : ¬ (281474976710656 < Builtin.nextslicecap m 0 * i.bytes) := by omega
    simp [Builtin.append_, run_underlying ht, run_underlying hti, sizeOf, typeInfo, zeroValue, hi, hz, asInt, asIntOf, hw, hneg, hbig, h63', h48', hm0, Question.forced, newRow, grownCap, hmz, Builtin.firstCells, loadCells, loadCellsFrom]
  refine wpList_plain hgd fun K hK => ?_
  have hge := grownCap_ge W m 0 e
  have hfin := hK _ _ (h (grownCap W m 0 e) (Builtin.zeroCells z.cells m ++ Builtin.zeroCells z.cells (grownCap W m 0 e - m)) hge (grownCap_le_maxLen W m 0 e (by simp only [maxLen]; omega)) (by simp only [Array.size_append, size_zeroCells, hzs, ← Nat.add_mul]; congr 1; omega))
  unfold Oper.wp
  simp [execOp, ho, resolve, invoke, builtin, hs, hx, hrun, Result.andThen]
  exact hfin
end
theorem own_new {α : Type} (d : Kd α) (e : TypeId) (M : Nat → Prop) (W : World) (B cap : Nat) (cur : Array Value) (hM : ∀ k, M k → k < W.heap.size) (hB : B ≤ W.heap.size) (hm : cap ≤ maxLen) (hs : cur.size = cap * d.sz) :
    d.Own e M (W.alloc (.cells cur e)) B (.slice (some ⟨W.heap.size, 0, none⟩) 0 cap) [] :=
  ⟨fun g hg hMg => by simp [Value.ownBlock] at hg; subst hg; have := hM _ hMg; omega, by simp, [], World.ownsRow_made W cur cap hB hm hs, rfl⟩
end Go.Proofs.Ythfonlnlopmonaa

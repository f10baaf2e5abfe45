/- slices.SortFunc at a row of the call's own, of any kind, by the shelf's contract. -/
import Derived.Test.YthfonlnlopmonaaRow
import Derived.Shelf.SlSortCmp.WholeK
import Derived.Shelf.SlSortCmp.NoneTotal
set_option linter.unusedVariables false
set_option linter.unusedSimpArgs false
namespace Go.Proofs.Ythfonlnlopmonaa
open Go.RowKit Go.Shelf Go.Sort
namespace Kd
variable {α : Type} {d : Kd α} {e : TypeId} {M N : Nat → Prop} {w w' : World} {B : Nat} {v : Value} {xs : List α}
theorem Parts.of_get : ∀ {xs : List α} {cells : List Value}, cells.length = xs.length * d.sz → (∀ i (h : i < xs.length), ∃ cs, d.K M w xs[i] cs ∧ ∀ j u, cs[j]? = some u → cells[i * d.sz + j]? = some u) → d.Parts M w xs cells
  | [], cells, hl, _ => by simp at hl; exact hl
  | x :: xs, cells, hl, h => by
    obtain ⟨cs, hK, hc⟩ := h 0 (by simp)
    have hlen := d.len hK
    have hl' : cells.length = xs.length * d.sz + d.sz := by rw [hl, List.length_cons, Nat.add_mul, Nat.one_mul]
    have hcs : cells.take d.sz = cs := by
      apply List.ext_getElem?
      intro j
      by_cases hj : j < cs.length
      · have := hc j cs[j] (List.getElem?_eq_getElem hj)
        rw [Nat.zero_mul, Nat.zero_add] at this
        rw [List.getElem?_take, if_pos (by omega), this, List.getElem?_eq_getElem hj]
      · rw [List.getElem?_eq_none (by simp; omega), List.getElem?_eq_none (by omega)]
    refine ⟨cs, cells.drop d.sz, by rw [← hcs, List.take_append_drop], hK, Parts.of_get (by simp; omega) (fun i hi => ?_)⟩
    obtain ⟨cs', h1, h2⟩ := h (i + 1) (by simpa using hi)
    refine ⟨cs', by simpa using h1, fun j u hu => ?_⟩
    have := h2 j u hu
    rw [List.getElem?_drop]
    rwa [show (i + 1) * d.sz + j = d.sz + (i * d.sz + j) by rw [Nat.add_mul]; omega] at this
/-- an element as the sort sees it: its cells, and what they show -/
structure SE (d : Kd α) (M : Nat → Prop) (w : World) where
  cs : List Value
  x : α
  h : d.K M w x cs
theorem sortW_keep {β : Type} [Inhabited β] (enc : β → List Value) (k : Nat) (w : World) (g m : Nat) (dk : Array β) (os : Array Obj) : Keep (fun j => j = g) w (sortWorldK enc k w g 0 m dk os) := by
  refine ⟨rfl, rfl, rfl, ?_, fun j hj hne => ?_⟩
  · simp [sortWorldK, Go.Sort.grow, putRowK, Go.Sort.putRow, mapBlock, Go.Sort.ahead]
  · simp only [sortWorldK, Go.Sort.grow, putRowK, Go.Sort.putRow, mapBlock, Go.Sort.ahead]
    rw [Array.getElem?_append_left (by simpa using hj), Array.getElem?_modify, if_neg (fun h => hne h.symm)]
theorem sortW_row {β : Type} [Inhabited β] (enc : β → List Value) (k : Nat) (w : World) (g m : Nat) (dk : Array β) (os : Array Obj) {cur : Array Value} {fr : Nat × Nat} (h : w.heap[g]? = some (.cells cur e fr)) : (sortWorldK enc k w g 0 m dk os).heap[g]? = some (.cells (putCells id 0 (flatK enc k dk) cur) e fr) := by
  have hlt := (Array.getElem?_eq_some_iff.1 h).1
  simp only [sortWorldK, Go.Sort.grow, putRowK, Go.Sort.putRow, mapBlock, Go.Sort.ahead]
  rw [Array.getElem?_append_left (by simpa using hlt), Array.getElem?_modify, if_pos rfl, h]
  rfl
theorem take_putCells (F cur : Array Value) (h : F.size ≤ cur.size) : (putCells id 0 F cur).toList.take F.size = F.toList := by
  apply List.ext_getElem?
  intro j
  by_cases hj : j < F.size
  · rw [List.getElem?_take, if_pos hj, List.getElem?_eq_getElem (by simp [putCells]; omega), List.getElem?_eq_getElem (by simpa using hj)]
    simp [putCells, hj]
  · rw [List.getElem?_eq_none (by simp; omega), List.getElem?_eq_none (by simp; omega)]
theorem size_putCells (F cur : Array Value) : (putCells id 0 F cur).size = cur.size := by simp [putCells]
theorem sort_own {P : Program} {ρ : Ren} (L : SlLaysF0.n6 P ρ) (d : Kd α) (e : TypeId) (aE : ∀ w, (isAgg (ρ.t 24)).run P w = .ok true w) (zE : ∀ w, (Go.sizeOf (ρ.t 24)).run P w = .ok d.sz w)
    (cf : α → α → Int) (hO : SWO (ltOf cf)) (gf : Nat) (cb : Array Value) (eg : ∀ args w, (callFunc gf args).run P w = .ok (.enter gf args) w)
    (h : d.Own e M w B v xs)
    (hc : ∀ W, Keep (fun k => v.ownBlock = some k) w W → ∀ x y u1 u2, d.Agg (fun k => M k ∨ v.ownBlock = some k) W x u1 → d.Agg (fun k => M k ∨ v.ownBlock = some k) W y u2 →
      Calls P gf (#[u1, u2] ++ cb) W fun e w' => e = .returned (.int .i64 (cf x y)) ∧ ∃ q os, w' = grow (W.drewN q) os) :
    Calls P (ρ.f 6) #[v, .func (.func gf) #[] cb] w fun e' w' => Sh (e' = .returned (.tuple #[]) ∧ ∃ ys, ys.Perm xs ∧ ys.Pairwise (fun x y => ltOf cf y x = false) ∧ d.Own e M w' B v ys ∧ Keep (fun k => v.ownBlock = some k) w w') := by
  by_cases h0 : 0 < xs.length
  · obtain ⟨g, cap, rfl, hcap, hg, hB⟩ := h.form h0
    have hM : ∀ k, (M k ∨ k = g) → (M k ∨ (Value.slice (some ⟨g, 0, none⟩) xs.length cap).ownBlock = some k) := fun k h => h.imp id (fun e => by subst e; rfl)
    have hM' : ∀ k, (M k ∨ (Value.slice (some ⟨g, 0, none⟩) xs.length cap).ownBlock = some k) → (M k ∨ k = g) := fun k h => h.imp id (fun e => by injection e with e; exact e.symm)
    have hel : ∀ i : Fin xs.length, ∃ s : SE d (fun k => M k ∨ k = g) w, s.x = xs[i] ∧ ∀ j u, s.cs[j]? = some u → w.cell? ⟨g, i * d.sz + j, none⟩ = some u ∧ w.frozen? ⟨g, i * d.sz + j, none⟩ = false := fun i => by
      obtain ⟨cs, hK, hcs⟩ := h.at i i.2
      exact ⟨⟨cs, _, hK⟩, rfl, hcs⟩
    let f : Fin xs.length → SE d (fun k => M k ∨ k = g) w := fun i => (hel i).choose
    have hf : ∀ i, (f i).x = xs[i] ∧ ∀ j u, (f i).cs[j]? = some u → w.cell? ⟨g, i * d.sz + j, none⟩ = some u ∧ w.frozen? ⟨g, i * d.sz + j, none⟩ = false := fun i => (hel i).choose_spec
    have hI : Inhabited (SE d (fun k => M k ∨ k = g) w) := ⟨f ⟨0, h0⟩⟩
    obtain ⟨D, hD⟩ : ∃ D, D = Array.ofFn f := ⟨_, rfl⟩
    have hDs : D.size = xs.length := by rw [hD]; simp
    have hDg : ∀ i (hi : i < xs.length), D[i]! = f ⟨i, hi⟩ := fun i hi => by rw [getElem!_pos D i (by omega)]; simp [hD]
    have hk : ∀ s : SE d (fun k => M k ∨ k = g) w, s.cs.length = d.sz := fun s => d.len s.h
    have hH : HoldsK (SE.cs (d := d) (M := fun k => M k ∨ k = g) (w := w)) d.sz w g 0 D := by
      intro j hj
      rw [size_flatK, hDs] at hj
      have hi : j / d.sz < xs.length := Nat.div_lt_of_lt_mul (by rwa [Nat.mul_comm] at hj)
      have hm : j % d.sz < d.sz := Nat.mod_lt _ d.pos
      rw [get_flatK _ _ _ _ (by rw [hDs]; exact hj), hDg _ hi]
      have := (hf ⟨_, hi⟩).2 (j % d.sz) _ (List.getElem?_eq_getElem (by rw [hk]; exact hm))
      have e1 : j / d.sz * d.sz + j % d.sz = j := by rw [Nat.mul_comm]; exact Nat.div_add_mod j d.sz
      simp only [e1] at this
      rw [Nat.zero_add, getElem!_pos _ _ (by rw [hk]; exact hm)]
      exact this
    have hcmp : CmpLays P gf cb (SE.cs (d := d) (M := fun k => M k ∨ k = g) (w := w)) d.sz (fun a b => cf a.x b.x) g 0 D.size w := by
      intro m os dk hs x y
      have hkp := sortW_keep (SE.cs (d := d) (M := fun k => M k ∨ k = g) (w := w)) d.sz w g m dk os
      exact hc _ (hkp.mono (fun k _ e => by subst e; rfl)) x.x y.x _ _ ⟨_, d.weak (d.keep x.h hkp (fun k _ e => .inr e)) (fun k _ => hM' k), rfl⟩ ⟨_, d.weak (d.keep y.h hkp (fun k _ e => .inr e)) (fun k _ => hM' k), rfl⟩
    have hsz : D.size < 4611686018427387904 := by have := h.2.1; omega
    have hswo : SWO (ltOf fun (a b : SE d (fun k => M k ∨ k = g) w) => cf a.x b.x) := ⟨fun x => hO.irrefl x.x, fun x y z => hO.trans x.x y.x z.x, fun x y z => hO.ntrans x.x y.x z.x⟩
    have key := AnyQ.slices_SortFunc L d.sz aE zE (SE.cs (d := d) (M := fun k => M k ∨ k = g) (w := w)) hk (fun s => d.one s.h) (fun a b => cf a.x b.x) hswo gf cb g 0 cap D w eg hcmp hH hg hsz
    rw [hDs] at key
    refine key.mono ?_
    rintro e' w' ⟨rfl, D', m, os, hp, hs, rfl⟩
    have hkp := sortW_keep (SE.cs (d := d) (M := fun k => M k ∨ k = g) (w := w)) d.sz w g m D' os
    have hD's : D'.size = xs.length := hp.1.trans hDs
    have hperm : D'.toList.Perm D.toList := by
      have := hp.2.2
      rwa [Array.extract_eq_self_of_le (by omega), Array.extract_eq_self_of_le (by omega)] at this
    have hDx : D.toList.map SE.x = xs := by
      apply List.ext_getElem
      · simp [hDs]
      · intro i h1 h2
        simp only [List.getElem_map, Array.getElem_toList]
        have e1 := (hf ⟨i, h2⟩).1
        rw [← hDg i h2, getElem!_pos D i (by omega)] at e1
        exact e1
    refine ⟨rfl, D'.toList.map SE.x, ?_, ?_, ?_, hkp.mono (fun k _ e => by subst e; rfl)⟩
    · rw [← hDx]
      exact hperm.map _
    · rw [List.pairwise_iff_getElem]
      intro i j hi hj hij
      simp only [List.length_map, Array.length_toList] at hi hj
      have := hs i j (Nat.zero_le _) hij (by omega)
      rw [getElem!_pos D' j hj, getElem!_pos D' i hi] at this
      simpa [ltOf] using this
    · obtain ⟨hmm, hlen, cells, how, hP⟩ := h
      rcases how.2 with ⟨h2, _⟩ | ⟨g', cap', cur, h2, hBg, hh, hcc, hcm, hsz', htk⟩
      · cases h2
      · cases h2
        have hl : (D'.toList.map SE.x).length = xs.length := by simp [hD's]
        have hfs : (flatK (SE.cs (d := d) (M := fun k => M k ∨ k = g) (w := w)) d.sz D').size = xs.length * d.sz := by rw [size_flatK, hD's]
        have hle : xs.length * d.sz ≤ cap * d.sz := Nat.mul_le_mul_right _ hcc
        refine ⟨hmm, by rw [hl]; exact hlen, (flatK (SE.cs (d := d) (M := fun k => M k ∨ k = g) (w := w)) d.sz D').toList, ⟨by rw [hl, Array.length_toList, hfs], .inr ⟨g, cap, _, by rw [hl], hBg, sortW_row _ _ _ _ _ _ _ hh, by rw [hl]; exact hcc, hcm, by rw [size_putCells]; exact hsz', ?_⟩⟩, ?_⟩
        · rw [hl, ← hfs]
          exact take_putCells _ _ (by rw [hfs, hsz']; exact hle)
        · refine Parts.of_get (by rw [hl, Array.length_toList, hfs]) (fun i hi => ?_)
          have hi' : i < D'.size := by simpa using hi
          refine ⟨D'[i].cs, ?_, fun j u hu => ?_⟩
          · simp only [List.getElem_map, Array.getElem_toList]
            exact d.weak (d.keep D'[i].h hkp (fun k _ e => .inr e)) (fun k _ => hM' k)
          · have hj : j < d.sz := by have := (List.getElem?_eq_some_iff.1 hu).1; rwa [hk] at this
            have hlt : i * d.sz + j < D'.size * d.sz := by
              have : (i + 1) * d.sz ≤ D'.size * d.sz := Nat.mul_le_mul_right _ hi'
              rw [Nat.add_mul] at this
              omega
            rw [Array.getElem?_toList, Array.getElem?_eq_getElem (by rw [size_flatK]; exact hlt), ← getElem!_pos _ _ (by rw [size_flatK]; exact hlt), get_flatK _ _ _ _ hlt]
            have e1 : (i * d.sz + j) / d.sz = i := by rw [Nat.mul_comm, Nat.mul_add_div d.pos, Nat.div_eq_of_lt hj, Nat.add_zero]
            have e2 : (i * d.sz + j) % d.sz = j := by rw [Nat.mul_comm, Nat.mul_add_mod, Nat.mod_eq_of_lt hj]
            rw [e1, e2, getElem!_pos D' i hi', getElem!_pos _ j (by rw [hk]; exact hj)]
            rw [List.getElem?_eq_getElem (by rw [hk]; exact hj)] at hu
            exact hu
  · have hx : xs = [] := List.eq_nil_of_length_eq_zero (by omega)
    obtain ⟨A, c, rfl, _, _⟩ := h.isSl
    have key := AnyF.slices_SortFunc_none L A c (.func (.func gf) #[] cb) w
    subst hx
    refine key.mono ?_
    rintro e' w' ⟨rfl, rfl⟩
    exact ⟨rfl, [], List.Perm.refl _, List.Pairwise.nil, h, Keep.refl _ _⟩
end Kd
end Go.Proofs.Ythfonlnlopmonaa

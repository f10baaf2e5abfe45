/- The row: arguments opened into kinds; what the call leaves reads as it did. -/
import Derived.Test.YthfonlnlopmonaaBase
import Derived.Test.YthfonlnlopmonaaRows
import Derived.ReadAgain
import Derived.ChangeBook
import Derived.ChangeStays
import Derived.Deep.Slices
import Derived.Deep.Strs
import Derived.ProofKit
import Derived.OpenShut
import Derived.JoinedCond
set_option linter.unusedVariables false
set_option linter.unusedSimpArgs false
namespace Go.Proofs.Ythfonlnlopmonaa
open Go.RowKit Go.ChangeShapes Go.WideShapes

section
variable {H : Type} {enc : TypeId × Value → H} {P : Program} {W W' : World}
theorem trodAll_ext (hX : Ext W W') : ∀ {ts : List TypeId} {vs : List Value} {ds : List (DataW H)} {ps : List MemPlace}, DataW.TrodAll enc P W 0 (fun _ => true) true ts vs ds ps → (∀ p ∈ ps, p.block < W.heap.size) → DataW.TrodAll enc P W' 0 (fun _ => true) true ts vs ds ps
  | [], [], [], ps, h, _ => h
  | t :: ts, v :: vs, d :: ds, ps, ⟨p, q, ⟨n, h1⟩, h2, e⟩, hl => by
    subst e
    refine ⟨p, q, ⟨n, DataW.trod_carry n _ _ _ h1 (fun m hm => ?_)⟩, trodAll_ext hX h2 (fun m hm => hl m (List.mem_append_right _ hm)), rfl⟩
    have hb := hl m (List.mem_append_left _ hm)
    cases m with
    | cell b off => exact World.cell?_of_block (hX.block b hb (fun x => x))
    | map b => exact hX.block b hb (fun x => x)
theorem kept_ext (hX : Ext W W') (may : MemPlace → Prop) : W.keptBut W' may := by
  refine ⟨hX.os, hX.output, fun i hi => ?_⟩
  rw [hX.block i hi (fun x => x)]
  exact (World.keptBut_refl W may).2.2 i hi
theorem post_of_ext {f : Func} {s : ChangeSpec} {apart fresh handsOn again : Bool} {args : Array Value} {v : Value} {ds : List (DataW H)} {before : List MemPlace} (hv : s.vars = [])
    (hW : DataW.Whole enc P f.params.toList s.vars apart W args.toList ds [] before) (hA : DataW.TrodAll enc P W 0 (fun _ => true) true f.params.toList args.toList ds before) (K : Kids P (· < P.types.size)) (hz : ∀ t e, t < P.types.size → P.underlying t = some (.slice e) → 0 < P.cellsOf e)
    (hT : ∀ t ∈ f.params.toList, t < P.types.size) (hX : Ext W W') (hargs : (s.fn H (ds ++ [])).args = ds)
    (hres : ∀ (b : Nat) (sp : Nat → Bool) (hd : Bool), DataW.TrodAll enc P W' b sp hd f.resultTypes.toList (v.resultList f.resultTypes.size) (s.fn H (ds ++ [])).results [])
    (hok : ∀ (j : Nat) (t : TypeId) (r : Value), f.resultTypes[j]? = some t → (v.resultList f.resultTypes.size)[j]? = some r → Value.okWide P W' .any 0 t r) (hvr : (s.fn H (ds ++ [])).vars = []) :
    s.post enc P f apart fresh handsOn again W args v W' := by
  have hlt := hA.lt
  have hA' := trodAll_ext hX hA hlt
  have hra : ∀ sp : Nat → Bool, (∀ p ∈ before, sp p.block = true) → DataW.TrodAll enc P W' 0 sp true f.params.toList args.toList (s.fn H (ds ++ [])).args before := fun sp hsp => by
    rw [hargs]
    exact DataW.TrodAll.respare K hz hT hA' hsp
  have hrv : ∀ sp : Nat → Bool, DataW.TrodVars enc P W' sp s.vars (s.fn H (ds ++ [])).vars [] := fun sp => by rw [hv, hvr]; rfl
  have hold : ∀ p ∈ before, (fun b => decide (b < W.heap.size)) p.block = true := fun p hp => by simpa using hlt p hp
  refine ⟨ds, [], before, [], before, [], hW, hres _ _ _, hra _ hold, hrv _, kept_ext hX _, fun _ => ?_⟩
  obtain ⟨_, _, _, _, _, hz0, hn⟩ := hW
  refine ⟨hok, _, _, ([] ++ before) ++ [], ⟨[] ++ before, [], trodAll_append (hra _ (fun _ _ => rfl)) (hres _ _ _), hrv _, rfl, ?_, ?_⟩, ?_⟩
  · intro b off hp
    have hp' : MemPlace.cell b off ∈ before := by simpa using hp
    have hb : b < W.heap.size := hlt _ hp'
    rw [Keep.frozen (p := ⟨b, off, none⟩) hX (fun x => x) hb]
    exact hz0 b off hp'
  · intro ha
    simpa using hn ha
  · intro p hp _
    simpa using hp

/-- what a reading of type e shows, as a kind; with Q, what its bulk bounds -/
def Op {α : Type} (d : Kd α) (enc : TypeId × Value → H) (P : Program) (W : World) (e : TypeId) (Q : α → Nat → Prop) : Prop :=
  ∀ n cs y, DataW.trod enc P W 0 (fun _ => true) true n e cs = some y → Rows.uptoBulk y.1 ≤ 1048576 → ∃ x, d.K none' W x cs ∧ Q x (Rows.uptoBulk y.1)
theorem bulk_mem {d : DataW H} {l : List (DataW H)} (h : d ∈ l) : Rows.uptoBulk d ≤ Rows.uptoBulkAll l := by
  induction l with
  | nil => cases h
  | cons x r ih =>
    simp only [Rows.uptoBulkAll]
    rcases List.mem_cons.1 h with rfl | h
    · omega
    · have := ih h
      omega
theorem bulk_pos (d : DataW H) : 1 ≤ Rows.uptoBulk d := by
  cases d with
  | lit l => cases l <;> simp [Rows.uptoBulk]
  | _ => simp [Rows.uptoBulk]
theorem bulk_len (l : List (DataW H)) : l.length ≤ Rows.uptoBulkAll l := by
  induction l with
  | nil => simp [Rows.uptoBulkAll]
  | cons x r ih =>
    have := bulk_pos x
    simp only [Rows.uptoBulkAll, List.length_cons]
    omega
theorem op_str {e : TypeId} (he : P.underlying e = some .string) : Op Kd.str enc P W e (fun _ _ => True) := by
  intro n cs y h hb
  obtain ⟨s, rfl, rfl, hs⟩ := DataW.trod_string he h
  have : s.size ≤ 1048576 := by
    simp only [Rows.uptoBulk, Array.length_toList] at hb
    exact Nat.le_trans (Nat.le_succ _) hb
  exact ⟨s, ⟨rfl, by omega⟩, trivial⟩
theorem op_sl {α : Type} {d : Kd α} {t e : TypeId} {Q : α → Nat → Prop} (hQ : ∀ x m n, m ≤ n → Q x m → Q x n) (ht : P.underlying t = some (.slice e)) (hc : P.cellsOf e = d.sz) (h : Op d enc P W e Q) : Op (Kd.sl d) enc P W t (fun xs b => xs.length ≤ b ∧ ∀ x ∈ xs, Q x b) := by
  intro n cs y hy hbk
  rcases Go.Deep.open_slice ht hy with ⟨rfl, rfl⟩ | ⟨a, len, cap, m, n', D, Pl, rfl, hb, hl, hm, hmm, rfl, hx⟩
  · exact ⟨[], ⟨_, rfl, Kd.IsSl.nil ..⟩, by simp, fun x hx => absurd hx (by simp)⟩
  · have hlm : len ≤ m := by rw [hmm]; split <;> omega
    have hbl : Rows.uptoBulkAll ((List.range len).map D) ≤ Rows.uptoBulk (DataW.slice ((List.range len).map D) ((List.range (m - len)).map fun j => D (len + j))) := by simp only [Rows.uptoBulk]; omega
    have hbi : ∀ i, i < len → Rows.uptoBulk (D i) ≤ Rows.uptoBulk (DataW.slice ((List.range len).map D) ((List.range (m - len)).map fun j => D (len + j))) := fun i hi => Nat.le_trans (bulk_mem (List.mem_map.2 ⟨i, List.mem_range.2 hi, rfl⟩)) hbl
    have hll : len ≤ Rows.uptoBulk (DataW.slice ((List.range len).map D) ((List.range (m - len)).map fun j => D (len + j))) := by
      have := bulk_len ((List.range len).map D)
      simp only [List.length_map, List.length_range] at this
      exact Nat.le_trans this hbl
    have hel : ∀ i : Fin len, ∃ x, (∃ cs', d.K none' W x cs' ∧ ∀ j u, cs'[j]? = some u → W.cell? (a.add (i * d.sz + j)) = some u) ∧ Q x (Rows.uptoBulk (D i)) := fun i => by
      obtain ⟨cs', h1, h2⟩ := hx i (by omega)
      rw [hc] at h1
      obtain ⟨_, hlen, hcell⟩ := World.cells?_some h1
      obtain ⟨x, hK, hQx⟩ := h _ _ _ h2 (Nat.le_trans (hbi i i.2) hbk)
      refine ⟨x, ⟨cs', hK, fun j u hu => ?_⟩, hQx⟩
      have hj := (List.getElem?_eq_some_iff.1 hu).1
      have := hcell j (by omega)
      rw [Kd.add_add, hu] at this
      exact this
    let f : Fin len → α := fun i => (hel i).choose
    have hf := fun i => (hel i).choose_spec
    have hlf : (List.ofFn f).length = len := by simp
    refine ⟨List.ofFn f, ⟨_, rfl, some a, cap, by rw [hlf], by rw [hlf]; exact hl, by rw [hlf]; have := Nat.le_trans hll hbk; omega, fun _ => ⟨a, rfl, fun x => x, fun i hi => ?_⟩⟩, ?_, fun x hx' => ?_⟩
    · have hi' : i < len := by rwa [hlf] at hi
      obtain ⟨⟨cs', hK, hcs⟩, _⟩ := hf ⟨i, hi'⟩
      refine ⟨cs', ?_, hcs⟩
      rw [List.getElem_ofFn]
      exact hK
    · rw [hlf]
      exact hll
    · obtain ⟨i, rfl⟩ := List.mem_ofFn.1 hx'
      exact hQ _ _ _ (hbi i i.2) (hf i).2
end
end Go.Proofs.Ythfonlnlopmonaa

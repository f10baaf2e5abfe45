/- Rows of the call's own: an element written, the tail cleared, the row cut. -/
import Derived.Test.YthfonlnlopmonaaBase
set_option linter.unusedVariables false
set_option linter.unusedSimpArgs false
namespace Go.Proofs.Ythfonlnlopmonaa
open Go.RowKit
namespace Kd
variable {α : Type} {d : Kd α} {e : TypeId} {M N : Nat → Prop} {w w' : World} {B : Nat} {v : Value} {xs : List α}
theorem Parts.set : ∀ {xs : List α} {cells : List Value} (i : Nat) {x : α} {cs : List Value}, d.Parts M w xs cells → i < xs.length → d.K M w x cs → d.Parts M w (xs.set i x) (cells.take (i * d.sz) ++ (cs ++ cells.drop (i * d.sz + d.sz)))
  | [], _, i, _, _, _, h, _ => absurd h (by simp)
  | y :: xs, cells, 0, x, cs, h, _, hk => by
    obtain ⟨c, rest, rfl, h1, hr⟩ := h
    refine ⟨cs, rest, ?_, hk, hr⟩
    rw [Nat.zero_mul, List.take_zero, Nat.zero_add, ← d.len h1, List.drop_left]; rfl
  | y :: xs, cells, i + 1, x, cs, h, hi, hk => by
    obtain ⟨c, rest, rfl, h1, hr⟩ := h
    have ih := Parts.set i hr (by simpa using hi) hk
    have hl := d.len h1
    refine ⟨c, _, ?_, h1, ih⟩
    rw [List.take_append, List.take_of_length_le (by rw [hl, Nat.add_mul]; omega), List.drop_append, List.drop_of_length_le (show c.length ≤ (i + 1) * d.sz + d.sz by rw [hl, Nat.add_mul]; omega), hl, List.append_assoc]
    rw [show (i + 1) * d.sz - d.sz = i * d.sz by rw [Nat.add_mul]; omega, show (i + 1) * d.sz + d.sz - d.sz = i * d.sz + d.sz by rw [Nat.add_mul]; omega]
    rfl
theorem set_two (l : List Value) (a : Nat) (x y : Value) (h : a + 2 ≤ l.length) : (l.set a x).set (a + 1) y = l.take a ++ ([x, y] ++ l.drop (a + 2)) := by
  apply List.ext_getElem?
  intro j
  simp only [List.getElem?_set, List.getElem?_append, List.length_take, List.length_set, List.getElem?_take, List.getElem?_drop]
  by_cases h1 : j < a
  · rw [if_neg (by omega), if_neg (by omega), if_pos (by omega), if_pos h1]
  · by_cases h2 : j = a
    · subst h2
      rw [if_neg (by omega), if_pos rfl, if_pos (by omega), if_neg (by omega), show j - min j l.length = 0 by omega]
      rfl
    · by_cases h3 : j = a + 1
      · subst h3
        rw [if_pos rfl, if_pos (by omega), if_neg (by omega), show a + 1 - min a l.length = 1 by omega]
        rfl
      · rw [if_neg (by omega), if_neg (by omega), if_neg (by omega), if_neg (by simp; omega)]
        congr 1
        simp; omega
/-- the block of a row that is not nil -/
theorem Own.form (h : d.Own e M w B v xs) (h0 : 0 < xs.length) : ∃ g cap, v = .slice (some ⟨g, 0, none⟩) xs.length cap ∧ xs.length ≤ cap ∧ g < w.heap.size ∧ B ≤ g := by
  obtain ⟨_, _, cells, ho, _⟩ := h
  rcases ho.2 with ⟨_, h2⟩ | ⟨g, cap, cur, rfl, hg, hh, hc, _⟩
  · omega
  · exact ⟨g, cap, rfl, hc, (Array.getElem?_eq_some_iff.1 hh).1, hg⟩
/-- an element's cells -/
theorem Own.at {g n cap : Nat} (h : d.Own e M w B (.slice (some ⟨g, 0, none⟩) n cap) xs) (i : Nat) (hi : i < xs.length) : ∃ cs, d.K (fun k => M k ∨ k = g) w xs[i] cs ∧ ∀ j u, cs[j]? = some u → w.cell? ⟨g, i * d.sz + j, none⟩ = some u ∧ w.frozen? ⟨g, i * d.sz + j, none⟩ = false := by
  obtain ⟨hm, _, cells, ho, hp⟩ := h
  obtain ⟨cs, hK, hc⟩ := hp.get i hi
  refine ⟨cs, d.weak hK (fun k _ hk => hk.elim .inl (fun e => .inr (by subst e; rfl))), fun j u hu => ⟨?_, ?_⟩⟩
  · have := ho.cells (g := g) rfl _ u (hc j u hu)
    rwa [show (⟨g, 0, none⟩ : Addr).add (i * d.sz + j) = ⟨g, i * d.sz + j, none⟩ by unfold Addr.add; split <;> simp_all] at this
  · rcases ho.2 with ⟨h2, _⟩ | ⟨g', cap', cur, h2, _, hh, _⟩
    · cases h2
    · cases h2
      simp [World.frozen?, hh]
/-- element i of two cells is written -/
theorem Own.set2 {g n cap : Nat} (hs : d.sz = 2) (h : d.Own e M w B (.slice (some ⟨g, 0, none⟩) n cap) xs) (i : Nat) (hi : i < xs.length) {x : α} {c0 c1 : Value} (hk : d.K (fun k => M k ∨ k = g) w x [c0, c1]) :
    d.Own e M ((w.setCell ⟨g, i * 2, none⟩ c0).setCell ⟨g, i * 2 + 1, none⟩ c1) B (.slice (some ⟨g, 0, none⟩) n cap) (xs.set i x) := by
  obtain ⟨hm, hlen, cells, ho, hp⟩ := h
  have hk2 : d.K (fun k => M k ∨ (Value.slice (some ⟨g, 0, none⟩) n cap).ownBlock = some k) w x [c0, c1] := d.weak hk (fun k _ h => h.imp id (fun e => by injection e with e; exact e.symm))
  have hP := Parts.set i hp hi hk2
  have hcl := hp.len
  rcases ho.2 with ⟨h2, _⟩ | ⟨g', cap', cur, h2, hBg, hh, hc, hcm, hsz, ht⟩
  · cases h2
  · cases h2
    have hkp : Keep (fun k => k = g) w ((w.setCell ⟨g, i * 2, none⟩ c0).setCell ⟨g, i * 2 + 1, none⟩ c1) :=
      Keep.setCell (M := fun k => k = g) (Keep.setCell (M := fun k => k = g) (Keep.refl _ _) ⟨g, i * 2, none⟩ c0 (Or.inl rfl)) ⟨g, i * 2 + 1, none⟩ c1 (Or.inl rfl)
    have hbd : i * 2 + 2 ≤ xs.length * 2 := by omega
    rw [hs] at hcl hsz hP ht
    have hle : xs.length * 2 ≤ cap * 2 := Nat.mul_le_mul_right _ hc
    refine ⟨hm, by simpa using hlen, _, ⟨?_, .inr ⟨g, cap, _, by rw [List.length_set], hBg, heap_set (heap_set hh), by rw [List.length_set]; exact hc, hcm, by simp [hs, hsz], ?_⟩⟩, hP.keep hkp (fun k _ e => .inr (by subst e; rfl))⟩
    · rw [List.length_set, hs]; simp; omega
    · rw [List.length_set, hs]
      have e1 : ((cur.setIfInBounds (i * 2) c0).setIfInBounds (i * 2 + 1) c1).toList = (cur.toList.set (i * 2) c0).set (i * 2 + 1) c1 := by simp
      rw [e1, set_two _ _ _ _ (by simp; omega), ← ht]
      rw [List.take_append, List.length_take]
      have l1 : min (i * 2) cur.toList.length = i * 2 := by simp; omega
      rw [l1, List.take_take, List.take_take, show min (i * 2) (xs.length * 2) = i * 2 by omega, show min (xs.length * 2) (i * 2) = i * 2 by omega]
      congr 1
      rw [List.take_append, show xs.length * 2 - i * 2 - [c0, c1].length = xs.length * 2 - (i * 2 + 2) by simp; omega, List.take_of_length_le (by simp; omega)]
      congr 1
      rw [List.drop_take]
theorem Own.cut {g n cap : Nat} (h : d.Own e M w B (.slice (some ⟨g, 0, none⟩) n cap) xs) (k : Nat) (hk : k ≤ xs.length) : d.Own e M w B (.slice (some ⟨g, 0, none⟩) k cap) (xs.take k) := by
  obtain ⟨hm, hlen, cells, ho, hp⟩ := h
  have hl : (xs.take k).length = k := by simp; omega
  rcases ho.2 with ⟨h2, _⟩ | ⟨g', cap', cur, h2, hBg, hh, hc, hcm, hsz, ht⟩
  · cases h2
  · cases h2
    have hle : k * d.sz ≤ xs.length * d.sz := Nat.mul_le_mul_right _ hk
    refine ⟨hm, by omega, cells.take (k * d.sz), ⟨by rw [hl, List.length_take, hp.len]; omega, .inr ⟨g, cap, cur, by rw [hl], hBg, hh, by omega, hcm, hsz, by rw [hl, ← ht, List.take_take, Nat.min_eq_left hle]⟩⟩, hp.take k⟩
end Kd
/-- a guard: the next operation is a call of clear -/
theorem at_clear_op {P : Program} {ops : Array Oper} {rest : List Oper} {a : Act} {Q : Exit → Act → World → Prop} {W : World} {d : Option Tmp} {xs : Array Operand} {ts : Array TypeId} {ty : TypeId} {pos : String} {aft : _} {gd : _}
    (h : wpList P ops Q (⟨d, .call { callee := .builtin .clear, args := xs, argTypes := ts }, ty, pos, aft, gd⟩ :: rest) a W) : wpList P ops Q (⟨d, .call { callee := .builtin .clear, args := xs, argTypes := ts }, ty, pos, aft, gd⟩ :: rest) a W := h
theorem mem_zeros {z : Array Value} {m : Nat} (hz : 0 < z.size) : ∀ u ∈ (Builtin.zeroCells z m).toList, u ∈ z.toList := by
  intro u hu
  simp only [Builtin.zeroCells, Array.toList_map, List.mem_map] at hu
  obtain ⟨i, _, rfl⟩ := hu
  have : i % z.size < z.size := Nat.mod_lt _ hz
  rw [getElem!_pos z _ this]
  exact Array.getElem_mem_toList this
section
variable {P : Program} {ops : Array Oper} {rest : List Oper} {o : Oper} {a : Act} {Q : Exit → Act → World → Prop} {α : Type}
/-- clear(s[k:]), s a row of the call's own: its head stays -/
theorem wp_clear_tail {W : World} (d : Kd α) (e : TypeId) (M : Nat → Prop) (B : Nat) (hgd : o.guard = none) (x : Operand) (t : TypeId) (z : Value) (bytes : Nat)
    (ho : o.op = .call { callee := .builtin .clear, args := #[x], argTypes := #[t] }) (hd : o.dst = none)
    (ht : P.underlying t = some (.slice e)) (hinfo : (P.info? e).map (fun i => (i.zero, i.size, i.bytes)) = some (some z, d.sz, bytes)) (hz : z.cells.size = d.sz) (hz1 : ∀ u ∈ z.cells.toList, u.oneCell' = true)
    (g n cap : Nat) (xs : List α) (HO : d.Own e M W B (.slice (some ⟨g, 0, none⟩) n cap) xs) (k m c : Nat) (hk : k + m = xs.length) (hx : a.eval x = .slice (some ⟨g, k * d.sz, none⟩) m c)
    (h : ∀ w1, d.Own e M w1 B (.slice (some ⟨g, 0, none⟩) k cap) (xs.take k) → Keep (fun k => k = g) W w1 → wpList P ops Q rest a w1) :
    wpList P ops Q (o :: rest) a W := by
  obtain ⟨i0, hi, hzz⟩ := Option.map_eq_some_iff.1 hinfo
  simp only [Prod.mk.injEq] at hzz
  obtain ⟨hz0, hz1', hz2⟩ := hzz
  refine wpList_plain hgd fun K hK => ?_
  have hadd : (⟨g, 0, none⟩ : Addr).add (k * d.sz) = ⟨g, k * d.sz, none⟩ := by unfold Addr.add; split <;> simp_all
  have HC := HO.cut k (by omega)
  by_cases hm : m = 0
  · subst hm
    have hfin := hK _ _ (h W HC (Keep.refl _ _))
    unfold Oper.wp
    simp [execOp, ho, hd, resolve, invoke, builtin, hx, Builtin.clear_, run_underlying ht, Result.andThen, Oper.upon, Act.put]
    simpa [Act.put] using hfin
  · obtain ⟨hmm, hlen, cells, how, hp⟩ := HO
    rcases how.2 with ⟨h2, _⟩ | ⟨g', cap', cur, h2, hBg, hh, hc, hcm, hsz, htk⟩
    · cases h2
    · cases h2
      obtain ⟨zs, hzs⟩ : ∃ zs, zs = (Builtin.zeroCells z.cells m).toList := ⟨_, rfl⟩
      have hzl : zs.length = m * d.sz := by rw [hzs, Array.length_toList, size_zeroCells, hz]
      have hle : xs.length * d.sz ≤ cap * d.sz := Nat.mul_le_mul_right _ hc
      have hkm : k * d.sz + m * d.sz = xs.length * d.sz := by rw [← Nat.add_mul, hk]
      have hst := run_storeCells_at P g (k * d.sz) e zs 0 cur W hh (by omega) (fun u hu => hz1 u (mem_zeros (by rw [hz]; exact d.pos) u (hzs ▸ hu)))
      simp only [Nat.add_zero] at hst
      have hg2 := setRow_heap W g cur (cur.toList.take (k * d.sz) ++ zs ++ cur.toList.drop (k * d.sz + zs.length)).toArray e _ hh
      have hKp : Keep (fun k => k = g) W (W.setRow g (cur.toList.take (k * d.sz) ++ zs ++ cur.toList.drop (k * d.sz + zs.length)).toArray) := ⟨rfl, rfl, rfl, by simp, fun j _ hj => setRow_other W g j _ hj⟩
      have hO1 : d.Own e M (W.setRow g (cur.toList.take (k * d.sz) ++ zs ++ cur.toList.drop (k * d.sz + zs.length)).toArray) B (.slice (some ⟨g, 0, none⟩) k cap) (xs.take k) := by
        have hl : (xs.take k).length = k := by simp; omega
        refine ⟨hmm, by omega, cells.take (k * d.sz), ⟨by rw [hl, List.length_take, hp.len]; omega, .inr ⟨g, cap, _, by rw [hl], hBg, hg2, by omega, hcm, by simp [hzl]; omega, ?_⟩⟩, (hp.take k).keep hKp (fun j _ e => .inr (by subst e; rfl))⟩
        rw [hl, ← htk, List.take_take, Nat.min_eq_left (by omega)]
        simp only [List.append_assoc]
        rw [List.take_append, List.take_of_length_le (by simp; omega), List.length_take, show k * d.sz - min (k * d.sz) cur.toList.length = 0 by simp; omega, List.take_zero, List.append_nil]
      have hfin := hK _ _ (h _ hO1 hKp)
      unfold Oper.wp
      simp [execOp, ho, hd, resolve, invoke, builtin, hx, hadd, Builtin.clear_, run_underlying ht, zeroValue, typeInfo, hi, hz0, ← hzs, hst, Result.andThen, Oper.upon, Act.put, hm]
      simpa [Act.put] using hfin
end
end Go.Proofs.Ythfonlnlopmonaa

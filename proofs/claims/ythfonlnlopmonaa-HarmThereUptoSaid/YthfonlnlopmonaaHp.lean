/- Layer 13, the plain law: the two words are among the pairs. -/
import Derived.Test.YthfonlnlopmonaaHj
set_option linter.unusedVariables false
set_option linter.unusedSimpArgs false
namespace Go.Proofs.Ythfonlnlopmonaa
open Go.RowKit

theorem bestTo_kind (a b : List ByteArray) (l : List Joint) : ∀ k, k ≤ l.length → bestTo a b l k = zJ ∨ ∃ m, ∃ h : m < l.length, bestTo a b l k = l[m] ∧ endsB a l[m].A = true ∧ beginsB b l[m].B = true
  | 0, _ => .inl rfl
  | k + 1, hk => by
    have ih := bestTo_kind a b l k (by omega)
    rw [bestTo_succ a b l k (by omega)]
    unfold betterJ
    split
    · rename_i h
      exact .inr ⟨k, by omega, rfl, h.1, h.2.1⟩
    · exact ih
theorem ends_eq {a x : List ByteArray} (h : endsB a x = true) : x.length ≤ a.length ∧ a.take (a.length - x.length) ++ x = a := by
  unfold endsB at h
  rw [Bool.and_eq_true, decide_eq_true_eq, decide_eq_true_eq] at h
  refine ⟨h.1, ?_⟩
  conv => lhs; rw [← h.2]
  have e : a.length - (a.drop (a.length - x.length)).length = a.length - x.length := by simp; omega
  rw [h.2]
  have := List.take_append_drop (a.length - x.length) a
  rwa [h.2] at this
theorem begins_eq {b x : List ByteArray} (h : beginsB b x = true) : x.length ≤ b.length ∧ x ++ b.drop x.length = b := by
  unfold beginsB at h
  rw [Bool.and_eq_true, decide_eq_true_eq, decide_eq_true_eq] at h
  refine ⟨h.1, ?_⟩
  have := List.take_append_drop x.length b
  rwa [h.2] at this
theorem begins_app (x y : List ByteArray) : beginsB (x ++ y) x = true := by
  unfold beginsB
  simp
theorem good_of {l : List Joint} {a b : List ByteArray} (ha0 : 0 < a.length) (hb0 : 0 < b.length) (ha : a.length ≤ 60) (hb : b.length ≤ 60) : goodP l (joinedL l a b) a b = true := by
  unfold goodP
  simp [ha0, hb0, ha, hb]
theorem there (l : List Joint) (a b : List ByteArray) (ha0 : 0 < a.length) (hb0 : 0 < b.length) (ha : a.length ≤ 60) (hb : b.length ≤ 60) : (a, b) ∈ unTo l (joinedL l a b) ((joinedL l a b).length + 1) := by
  have hg := good_of (l := l) ha0 hb0 ha hb
  have hr : joinedL l a b = a.take (a.length - (bestJ l a b).A.length) ++ ((bestJ l a b).C ++ b.drop (bestJ l a b).B.length) := rfl
  rcases bestTo_kind a b l l.length (Nat.le_refl _) with h | ⟨m, hm, h, hE, hB⟩
  · have h' : bestJ l a b = zJ := h
    rw [h'] at hr
    have hr2 : joinedL l a b = a ++ b := by rw [hr]; simp [zJ]
    refine mem_unTo a.length (fun o => ?_) _ (by rw [hr2]; simp; omega)
    unfold unI
    refine mem_unK ?_ _ (Nat.le_refl _)
    have e1 : (joinedL l a b).take a.length = a := by rw [hr2]; simp
    have e2 : (joinedL l a b).drop a.length = b := by rw [hr2]; simp
    rw [e1, e2]
    exact mem_tried_new hg
  · have h' : bestJ l a b = l[m] := h
    rw [h'] at hr
    obtain ⟨hAl, hA⟩ := ends_eq hE
    obtain ⟨hBl, hBb⟩ := begins_eq hB
    obtain ⟨i, hi⟩ : ∃ i, i = a.length - l[m].A.length := ⟨_, rfl⟩
    rw [← hi] at hr hA
    have hti : (a.take i).length = i := by simp; omega
    have e1 : (joinedL l a b).take i = a.take i := by rw [hr, List.take_append, hti, Nat.sub_self, List.take_zero, List.append_nil, List.take_of_length_le (by omega)]
    have e2 : (joinedL l a b).drop i = l[m].C ++ b.drop l[m].B.length := by rw [hr, List.drop_append, hti, Nat.sub_self, List.drop_zero, List.drop_of_length_le (by omega), List.nil_append]
    have e3 : (joinedL l a b).drop (i + l[m].C.length) = b.drop l[m].B.length := by rw [← List.drop_drop, e2]; simp
    refine mem_unTo i (fun o => ?_) _ (by rw [hr, List.length_append, hti]; omega)
    unfold unI
    refine mem_unK_at m hm (fun o => ?_) _ hm (Nat.le_refl _)
    unfold unJ
    rw [e2, begins_app, if_pos rfl, e1, e3, hA, hBb]
    exact mem_tried_new hg
theorem vWord_iff (a : List ByteArray) : vWord a = 0 ↔ a.length ≤ 60 ∧ ∀ s ∈ a, longSym s = false ∧ isSym s = true := by
  unfold vWord
  constructor
  · intro h
    split at h
    · exact absurd h (by decide)
    · rename_i h1
      split at h
      · exact absurd h (by decide)
      · rename_i h2
        refine ⟨by have := fun h3 => h1 (.inl h3); omega, fun s hs => ⟨?_, ?_⟩⟩
        · have h3 : ¬ a.any longSym = true := fun h3 => h1 (.inr h3)
          rw [List.any_eq_true] at h3
          cases e : longSym s with
          | false => rfl
          | true => exact absurd ⟨s, hs, e⟩ h3
        · rw [List.any_eq_true] at h2
          cases e : isSym s with
          | true => rfl
          | false => exact absurd ⟨s, hs, by rw [e]; rfl⟩ h2
  · rintro ⟨h1, h2⟩
    rw [if_neg, if_neg]
    · rw [List.any_eq_true]
      rintro ⟨s, hs, e⟩
      rw [(h2 s hs).2] at e
      exact absurd e (by decide)
    · rintro (h | h)
      · omega
      · rw [List.any_eq_true] at h
        obtain ⟨s, hs, e⟩ := h
        rw [(h2 s hs).1] at e
        exact absurd e (by decide)
theorem vJoints_words {l : List Joint} (h : vJoints l = 0) : ∀ j ∈ l, vWord j.C = 0 := by
  unfold vJoints at h
  split at h
  · exact absurd h (by decide)
  · intro j hj
    have hz : firstNZ (l.map fun j => vWords [j.A, j.B, j.C]) = 0 := by
      split at h
      · assumption
      · exact h
    have h3 := firstNZ_zero hz _ (List.mem_map_of_mem hj)
    exact firstNZ_zero (show firstNZ ([j.A, j.B, j.C].map vWord) = 0 from h3) _ (by simp)
theorem joined_word (l : List Joint) (a b : List ByteArray) (hJ : vJoints l = 0) (ha : vWord a = 0) (hb : vWord b = 0) (hr : (joinedL l a b).length ≤ 60) : vWord (joinedL l a b) = 0 := by
  refine (vWord_iff _).2 ⟨hr, fun s hs => ?_⟩
  have hA := ((vWord_iff _).1 ha).2
  have hB := ((vWord_iff _).1 hb).2
  unfold joinedL at hs
  rcases List.mem_append.1 hs with hs | hs
  · exact hA s (List.mem_of_mem_take hs)
  · rcases List.mem_append.1 hs with hs | hs
    · rcases bestTo_kind a b l l.length (Nat.le_refl _) with h | ⟨m, hm, h, _⟩
      · have h' : bestJ l a b = zJ := h
        rw [h'] at hs
        simp [zJ] at hs
      · have h' : bestJ l a b = l[m] := h
        rw [h'] at hs
        exact ((vWord_iff _).1 (vJoints_words hJ _ (List.getElem_mem hm))).2 s hs
    · exact hB s (List.mem_of_mem_drop hs)
end Go.Proofs.Ythfonlnlopmonaa

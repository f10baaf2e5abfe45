/- Layer 13: what the law's own helpers answer. -/
import Derived.Test.YthfonlnlopmonaaHj
import Derived.StillTailTactics
set_option linter.unusedVariables false
set_option linter.unusedSimpArgs false
namespace Go.Proofs.Ythfonlnlopmonaa
open Go.RowKit

set_option maxHeartbeats 2000000 in
theorem bytes_calls (A : Option Addr) (c : Nat) (l : List (List ByteArray)) (M : Nat → Prop) (w : World) (hr : (Kd.sl Kd.str).C M w A l) :
    Calls Try.prog 5 #[.slice A l.length c] w fun e w' => (∃ n : Int, e = .returned (.int .i64 n)) ∧ w' = w := by
  have HR := Sh.mk hr
  have hml := hr.1
  clear hr
  go_enter Try.func5, Try.ntmps5
  go_wp2_with fail
  go_loopw [3, 4] (fun v3 v4 wr => ∃ (n : Int) (i : Nat), v3 = .int .i64 n ∧ v4 = .int .i64 i ∧ i ≤ l.length ∧ wr = w) (fun _ v4 _ => l.length - (intOf v4).toNat)
  case atStart => exact ⟨0, 0, rfl, rfl, by omega, rfl⟩
  case round =>
    obtain ⟨n, i, rfl, rfl, hi, rfl⟩ := hrel
    by_cases hlt : i < l.length
    · obtain ⟨ad, A', c', rfl, hc, hcl, hC⟩ := Kd.at_sl HR.out i hlt
      have HC := Sh.mk hC
      have hm2 := hC.1
      clear hC
      generalize hx : l[i] = x at *
      clear hx
      go_wp2_with fail
      go_loopw [3, 5] (fun v3 v5 W => ∃ (n : Int) (k : Nat), v3 = .int .i64 n ∧ v5 = .int .i64 k ∧ k ≤ x.length ∧ W = wr) (fun _ v5 _ => x.length - (intOf v5).toNat)
      case atStart => exact ⟨_, 0, rfl, rfl, by omega, rfl⟩
      case round =>
        obtain ⟨n2, k, rfl, rfl, hk, rfl⟩ := hrel
        by_cases hkl : k < x.length
        · obtain ⟨ad2, rfl, hc2, hs2⟩ := Kd.at_str HC.out k hkl
          by_cases hn : n2 ≤ 32000
          · go_wp2_with fail
            go_roundw
            case rel => exact ⟨_, k + 1, rfl, by go_num, by omega, by first | trivial | rfl⟩
            case measure => simp [intOf]; omega
          · go_wp2_with fail
            go_roundw
            case rel => exact ⟨_, i + 1, rfl, by go_num, by omega, by first | trivial | rfl⟩
            case measure => simp [intOf]; omega
        · go_wp2_with fail
          go_roundw
          case rel => exact ⟨_, i + 1, rfl, by go_num, by omega, by first | trivial | rfl⟩
          case measure => simp [intOf]; omega
    · go_wp2_with fail
      go_ret
      exact ⟨⟨_, rfl⟩, rfl⟩
set_option maxHeartbeats 2000000 in
theorem lawjoints_calls (A : Option Addr) (c : Nat) (l : List Joint) (w : World) (hr : kJoint.C none' w A l) :
    Calls Try.prog 4 #[.slice A l.length c] w fun e w' => (∃ n : Int, e = .returned (.int .i64 n)) ∧ Ext w w' := by
  have HR := Sh.mk hr
  have hml := hr.1
  clear hr
  go_enter Try.func4, Try.ntmps4
  go_wp2_with fail
  go_loopw [3, 4] (fun v3 v4 wr => ∃ (n : Int) (i : Nat), v3 = .int .i64 n ∧ v4 = .int .i64 i ∧ i ≤ l.length ∧ Sh (Ext w wr)) (fun _ v4 _ => l.length - (intOf v4).toNat)
  case atStart => exact ⟨_, 0, rfl, rfl, by omega, ⟨Ext.refl _⟩⟩
  case round =>
    obtain ⟨n, i, rfl, rfl, hi, HX⟩ := hrel
    by_cases hlt : i < l.length
    · by_cases hn : n ≤ 32000
      · obtain ⟨ad, A0, c0, A1, c1, A2, c2, rfl, hmad, hc0, hc1, hc2, ⟨hl0, hg0⟩, ⟨hl1, hg1⟩, ⟨hl2, hg2⟩⟩ := at_Joint HR.out i hlt
        have hd0 := HX.out.cell hc0
        have hd1 := HX.out.cell hc1
        have hd2 := HX.out.cell hc2
        have HBy := Sh.mk (fun (W : World) (h : Ext w W) (b1 : Nat) (hh : W.heap[b1]? = some (.cells #[.slice A0 l[i].A.length c0, .slice A1 l[i].B.length c1, .slice A2 l[i].C.length c2] 23 (0, 0))) =>
          (show Calls Try.prog 5 #[.slice (some ⟨b1, 0, none⟩) 3 3] W _ from bytes_calls (some ⟨b1, 0, none⟩) 3 [l[i].A, l[i].B, l[i].C] none' W
            (Kd.C_block hh (fun x => x) (by simp) (.cons (Kd.sl_K hl0 (hg0.ext h)) (.cons (Kd.sl_K hl1 (hg1.ext h)) (.cons (Kd.sl_K hl2 (hg2.ext h)) (.nil ..)))))))
        clear hc0 hc1 hc2 hmad hl0 hl1 hl2 hg0 hg1 hg2
        go_wp2_with fail
        go_region_held3 (fun w' => w'.cell? (ad.add (i * 3)) = some (.slice A0 l[i].A.length c0) ∧ w'.cell? ⟨(ad.add (i * 3)).block, (ad.add (i * 3)).off + 1, none⟩ = some (.slice A1 l[i].B.length c1) ∧ w'.cell? ⟨(ad.add (i * 3)).block, (ad.add (i * 3)).off + 2, none⟩ = some (.slice A2 l[i].C.length c2) ∧ Sh (Ext w w')) (first | assumption | exact keep3 (by assumption) (Ext.alloc (Ext.refl _) _) | exact ⟨hd0, hd1, hd2, ⟨HX.out.drew⟩⟩) (first | (go_at_call 5; (with_reducible refine (HBy.out _ ?_ _ ?_).mono ?_); exact Sh.out (And.right (And.right (And.right (by assumption)))); exact heap_new rfl; rintro e w' ⟨⟨n9, rfl⟩, rfl⟩))
        all_goals go_wp2_with fail
        all_goals go_roundw
        case rel => exact ⟨_, i + 1, rfl, by go_num, by omega, (show _ ∧ _ ∧ _ ∧ Sh (Ext w _) from by assumption).2.2.2⟩
        case measure => simp [intOf]; omega
      · go_wp2_with fail
        go_ret
        exact ⟨⟨_, rfl⟩, HX.out⟩
    · go_wp2_with fail
      go_ret
      exact ⟨⟨_, rfl⟩, HX.out⟩
theorem less_irrefl (x : ByteArray) : Op.bytesLess x.toList x.toList = false := by
  have h := (cmpS_lin.eq0 x x).2 rfl
  unfold cmpS at h
  cases e : Op.bytesLess x.toList x.toList with
  | false => rfl
  | true => rw [e, if_pos rfl] at h; exact absurd h (by decide)
set_option maxHeartbeats 2000000 in
theorem reforder_calls (A B : Option Addr) (ca cb : Nat) (a b : List ByteArray) (w : World) (ha : Kd.str.C none' w A a) (hb : Kd.str.C none' w B b) :
    Calls Try.prog 26 #[.slice A a.length ca, .slice B b.length cb] w fun e w' => Sh (∃ n : Int, e = .returned (.int .i64 n) ∧ (a = b → n = 0) ∧ Dr w w') := by
  have HA := Sh.mk ha
  have HB := Sh.mk hb
  have hma := ha.1
  have hmb := hb.1
  clear ha hb
  have HL := Sh.mk (fun (h : a = b) => congrArg List.length h)
  go_enter Try.func26, Try.ntmps26
  go_wp2_with fail
  go_loopw [5] (fun v5 wr => ∃ k : Nat, k ≤ a.length ∧ k ≤ b.length ∧ v5 = .int .i64 k ∧ Sh (Dr w wr)) (fun v5 _ => a.length - (intOf v5).toNat)
  case atStart => exact ⟨0, by omega, by omega, rfl, ⟨Dr.refl _⟩⟩
  case round =>
    obtain ⟨k, hka, hkb, rfl, HW⟩ := hrel
    by_cases hla : k < a.length
    · by_cases hlb : k < b.length
      · obtain ⟨ada, rfl, hca, hsa⟩ := Kd.at_str HA.out k hla
        obtain ⟨adb, rfl, hcb, hsb⟩ := Kd.at_str HB.out k hlb
        have hda := HW.out.ext.cell hca
        have hdb := HW.out.ext.cell hcb
        have HQ := Sh.mk (show a = b → a[k] = b[k] from fun h => by subst h; rfl)
        clear hca hcb
        generalize a[k] = x at *
        generalize b[k] = y at *
        have HP := Sh.mk (show a = b → Op.bytesLess x.toList y.toList = false from fun h => by rw [HQ.out h]; exact less_irrefl y)
        have HP2 := Sh.mk (show a = b → (x.toList == y.toList) = true from fun h => by rw [HQ.out h]; simp)
        generalize hp : Op.bytesLess x.toList y.toList = p at *
        generalize hq : (x.toList == y.toList) = q at *
        cases p with
        | true =>
          go_wp2_with fail
          go_quiet (fail)
          go_wp2_with fail
          go_ret
          exact ⟨_, rfl, fun h => absurd (HP.out h) (by decide), by repeat (first | exact HW.out | apply Dr.drewN | apply Dr.drew)⟩
        | false =>
          cases q with
          | false =>
            go_wp2_with fail
            go_quiet (fail)
            go_wp2_with fail
            go_quiet (fail)
            go_wp2_with fail
            go_ret
            exact ⟨_, rfl, fun h => absurd (HP2.out h) (by decide), by repeat (first | exact HW.out | apply Dr.drewN | apply Dr.drew)⟩
          | true =>
            go_wp2_with fail
            go_quiet (fail)
            go_wp2_with fail
            go_quiet (fail)
            go_wp2_with fail
            go_roundw
            case rel => exact ⟨k + 1, by omega, by omega, by go_num, ⟨by repeat (first | exact HW.out | apply Dr.drewN | apply Dr.drew)⟩⟩
            case measure => simp [intOf]; omega
      · by_cases hab : a.length < b.length
        · go_wp2_with fail
          go_ret
          exact ⟨_, rfl, fun h => absurd (HL.out h) (by omega), HW.out⟩
        · by_cases hba : b.length < a.length
          · go_wp2_with fail
            go_ret
            exact ⟨_, rfl, fun h => absurd (HL.out h) (by omega), HW.out⟩
          · go_wp2_with fail
            go_ret
            exact ⟨_, rfl, fun h => rfl, HW.out⟩
    · by_cases hab : a.length < b.length
      · go_wp2_with fail
        go_ret
        exact ⟨_, rfl, fun h => absurd (HL.out h) (by omega), HW.out⟩
      · by_cases hba : b.length < a.length
        · go_wp2_with fail
          go_ret
          exact ⟨_, rfl, fun h => absurd (HL.out h) (by omega), HW.out⟩
        · go_wp2_with fail
          go_ret
          exact ⟨_, rfl, fun h => rfl, HW.out⟩
theorem same_calls (A B : Option Addr) (ca cb : Nat) (a b : List ByteArray) (w : World) (ha : Kd.str.C none' w A a) (hb : Kd.str.C none' w B b) :
    Calls Try.prog 9 #[.slice A a.length ca, .slice B b.length cb] w fun e w' => Sh (∃ r : Bool, e = .returned (.bool r) ∧ (a = b → r = true) ∧ Dr w w') := by
  have H := Sh.mk (reforder_calls A B ca cb a b w ha hb)
  clear ha hb
  go_enter Try.func9, Try.ntmps9
  go_wp2_with fail
  (with_reducible refine H.out.mono ?_)
  intro e w1 h0
  obtain ⟨n, rfl, hn, hd⟩ := h0.out
  have HN := Sh.mk (And.intro hn hd)
  clear h0 hn hd
  by_cases h1 : n = 0
  · subst h1
    go_wp2_with fail
    go_ret
    exact ⟨_, rfl, fun _ => rfl, HN.out.2⟩
  · have h2 : (n == 0) = false := by simpa using h1
    have HN1 := Sh.mk h1
    clear h1
    go_wp2_with fail
    go_ret
    exact ⟨_, rfl, fun h => absurd (HN.out.1 h) HN1.out, HN.out.2⟩
end Go.Proofs.Ythfonlnlopmonaa

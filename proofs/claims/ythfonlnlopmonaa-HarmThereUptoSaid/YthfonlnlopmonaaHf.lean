/- Layer 13: Unsandhi. -/
import Derived.Test.YthfonlnlopmonaaHj
import Derived.StillTailTactics
import Derived.Laws.EntriesVeiled
set_option linter.unusedVariables false
set_option linter.unusedSimpArgs false
namespace Go.Proofs.Ythfonlnlopmonaa
open Go.RowKit

theorem heap_new1 {w : World} {o o1 : Obj} {n : Nat} : (((w.alloc o).drewN n).alloc o1).heap[w.heap.size + 1]? = some o1 := heap_new (by simp)
theorem heap_new1' {w : World} {o o1 o2 : Obj} {n : Nat} : ((((w.alloc o).drewN n).alloc o1).alloc o2).heap[w.heap.size + 1]? = some o1 := heap_old (heap_new (by simp))
theorem heap_new2 {w : World} {o o1 o2 : Obj} {n : Nat} : ((((w.alloc o).drewN n).alloc o1).alloc o2).heap[w.heap.size + 1 + 1]? = some o2 := heap_new (by simp)
theorem keep4 {W W' : World} {a1 a2 a3 a4 : Addr} {v1 v2 v3 v4 : Value} (hs : W.cell? a1 = some v1 ∧ W.cell? a2 = some v2 ∧ W.cell? a3 = some v3 ∧ W.cell? a4 = some v4) (h : Ext W W') : W'.cell? a1 = some v1 ∧ W'.cell? a2 = some v2 ∧ W'.cell? a3 = some v3 ∧ W'.cell? a4 = some v4 := ⟨h.cell hs.1, h.cell hs.2.1, h.cell hs.2.2.1, h.cell hs.2.2.2⟩
theorem keep4' {W W' : World} {M : Nat → Prop} {a1 a2 a3 a4 : Addr} {v1 v2 v3 v4 : Value} (h1 : W'.cell? a1 = some v1) (h : Keep M W W') (hm : ¬ M a2.block) (hs : W.cell? a1 = some v1 ∧ W.cell? a2 = some v2 ∧ W.cell? a3 = some v3 ∧ W.cell? a4 = some v4) (h3 : a3.block = a2.block := by rfl) (h4 : a4.block = a2.block := by rfl) : W'.cell? a1 = some v1 ∧ W'.cell? a2 = some v2 ∧ W'.cell? a3 = some v3 ∧ W'.cell? a4 = some v4 := ⟨h1, h.cell hm hs.2.1, h.cell (by rw [h3]; exact hm) hs.2.2.1, h.cell (by rw [h4]; exact hm) hs.2.2.2⟩
set_option maxRecDepth 100000 in
set_option maxHeartbeats 8000000 in
theorem unsandhi_calls (Al : Option Addr) (cl : Nat) (l : List Joint) (Ax : Option Addr) (cx : Nat) (x : List ByteArray) (w : World) (hl : kJoint.C none' w Al l) (hcx : x.length ≤ cx) (hx : Kd.str.C none' w Ax x) (hlx : x.length ≤ 14) (he : firstNZ [vJoints l, vWords [x]] = 0) :
    Calls Try.prog 8 #[.slice Al l.length cl, .slice Ax x.length cx] w fun e w' => Sh (∃ v zs, e = .returned (.tuple #[v, .int .i64 0]) ∧ kP.IsSl none' w' zs v ∧ (∀ p ∈ unTo l x (x.length + 1), p ∈ zs) ∧ Ext w w') := by
  have HJ := Sh.mk (fun (W : World) (h : Ext w W) => joints_calls Al cl l none' W (hl.ext h))
  have HW := Sh.mk (fun (b1 : Nat) (W : World) (h : Ext w W) (hb1 : W.heap[b1]? = some (.cells #[.slice Ax x.length cx] 23 (0, 0))) =>
          (show Calls Try.prog 13 #[.slice (some ⟨b1, 0, none⟩) 1 1] W _ from words_calls (some ⟨b1, 0, none⟩) 1 [x] none' W
            (Kd.C_block hb1 (fun x => x) (by simp) (.cons (Kd.sl_K hcx (hx.ext h)) (.nil ..)))))
  have HF := Sh.mk (fun (b1 : Nat) (W : World) (hb1 : W.heap[b1]? = some (.cells #[.int .i64 (vJoints l), .int .i64 (vWords [x])] 27 (0, 0))) =>
          (show Calls Try.prog 11 #[.slice (some ⟨b1, 0, none⟩) 2 2] W _ from first_calls (some ⟨b1, 0, none⟩) 2 [vJoints l, vWords [x]] none' W
            (Kd.C_block hb1 (fun x => x) (by simp) (.cons (cs := [.int .i64 (vJoints l)]) rfl (.cons (cs := [.int .i64 (vWords [x])]) rfl (.nil ..))))))
  have HB := Sh.mk (vJoints_len (firstNZ_zero he _ (List.mem_cons_self ..)))
  have hll := HB.out.1
  have HL := Sh.mk hl
  have HX := Sh.mk hx
  clear hl hx
  rw [he] at HF
  clear he
  generalize vJoints l = ej at *
  generalize vWords [x] = ew at *
  go_enter Try.func8, Try.ntmps8
  go_upto_region 1 with fail
  go_cut [6] (fun v6 wx => v6 = .int .i64 0 ∧ Sh (Ext w wx ∧ wx.cell? ⟨w.heap.size, 0, none⟩ = some (.slice Al l.length cl) ∧ wx.cell? ⟨w.heap.size + 1, 0, none⟩ = some (.slice Ax x.length cx) ∧ w.heap.size + 2 ≤ wx.heap.size))
  case first =>
    go_region_held3 (fun w' => w'.cell? ⟨w.heap.size, 0, none⟩ = some (.slice Al l.length cl) ∧ w'.cell? ⟨w.heap.size + 1, 0, none⟩ = some (.slice Ax x.length cx) ∧ Sh (Ext w w'))
      (first | exact keep2 (by assumption) (by assumption) | exact keep2 (by assumption) (Ext.alloc (Ext.refl _) _) | exact ⟨by simp, by simp, ⟨(((Ext.refl _).alloc _).alloc _).drew⟩⟩)
      (first | (go_at_call 12; refine (HJ.out _ ?_).mono ?_; exact Sh.out (And.right (And.right (by assumption))); rintro e w' ⟨rfl, h⟩) | (go_at_call 13; refine (HW.out _ _ ?_ ?_).mono ?_; exact Sh.out (And.right (And.right (by assumption))); (first | exact heap_new rfl | exact Ext.block' (by assumption) (heap_new rfl) | exact Ext.block' (by assumption) (heap_new_drew (by simp))); rintro e w' ⟨rfl, h2⟩; have h := Dr.ext h2) | (go_at_call 11; refine (HF.out _ _ ?_).mono ?_; (first | exact heap_new rfl | exact Ext.block' (by assumption) (heap_new rfl) | exact Ext.block' (by assumption) (heap_new_drew (by simp))); rintro e w' ⟨rfl, h2⟩; have h := Dr.ext h2))
    all_goals go_wp2_with fail
    all_goals go_meet
    all_goals exact ⟨rfl, ⟨(show _ ∧ _ ∧ Sh (Ext w _) from by assumption).2.2.out, (show _ ∧ _ ∧ Sh (Ext w _) from by assumption).1, (show _ ∧ _ ∧ Sh (Ext w _) from by assumption).2.1, by have := World.block_lt_of_cell? _ _ (show _ ∧ _ ∧ Sh (Ext w _) from by assumption).2.1; exact this⟩⟩
  case rest =>
    obtain ⟨W0, hW0⟩ : ∃ W0, W0 = wc := ⟨_, rfl⟩
    subst hW0
    obtain ⟨rfl, hC⟩ := hcut
    have HC := hC
    obtain ⟨⟨hx0, hbl, hbx, hsz⟩⟩ := hC
    have HX0 := Sh.mk hx0
    have hle1 : ¬ w.heap.size = W0.heap.size := by omega
    have hle2 : ¬ w.heap.size + 1 = W0.heap.size := by omega
    have hle3 : w.heap.size < W0.heap.size := by omega
    have hle4 : w.heap.size + 1 < W0.heap.size := by omega
    clear hx0
    go_wp2_with fail
    go_loopw [30] (fun v30 wr => ∃ i : Nat, i ≤ x.length + 1 ∧ v30 = .int .i64 i ∧ Sh (Un w W0.heap.size w.heap.size (w.heap.size + 1) (W0.heap.size + 1) (.slice Al l.length cl) (.slice Ax x.length cx) (unTo l x i) wr)) (fun v30 _ => x.length + 1 - (intOf v30).toNat)
    case atStart =>
      exact ⟨0, by omega, rfl, ⟨⟨.slice none 0 0, heap_new rfl, Kd.Own.nil ..⟩, (Ext.alloc (Ext.refl _) _).cell hbl, (Ext.alloc (Ext.refl _) _).cell hbx, HX0.out.alloc _, by omega, by omega, by omega, by omega, by omega, by simp⟩⟩
    case round =>
      obtain ⟨i, hi, rfl, HU⟩ := hrel
      by_cases hlt : i < x.length + 1
      · have hux := HU.out.cx
        have hul := HU.out.cl
        have hix : i ≤ x.length := by omega
        have hixI : (i : Int) ≤ (x.length : Int) := by omega
        have hicI : (i : Int) ≤ (cx : Int) := by omega
        have htl : (x.take i).length = i := by simp; omega
        have hdl : (x.drop i).length = x.length - i := by simp
        have HO := Sh.mk (show ((unTo l x i).length + 1) ≤ 25 * 15 by
          have h1 := unTo_len l x i
          have h2 : i * (l.length + 1) ≤ 14 * 25 := Nat.mul_le_mul (by omega) (by omega)
          omega)
        have HTD := Sh.mk (And.intro htl hdl)
        clear htl hdl
        go_upto_region 11 with fail
        go_cut [] (fun wx => Sh (Un w W0.heap.size w.heap.size (w.heap.size + 1) (W0.heap.size + 1) (.slice Al l.length cl) (.slice Ax x.length cx) (tried l x (unTo l x i) (x.take i) (x.drop i)) wx))
        case first =>
          have HC1 := Sh.mk (fun (W : World) (h : Ext wr W) => rd_clone w wr W h Ax cx i (x.take i) HTD.out.1 ((HX.out.take i).ext (HU.out.ext.trans h)) (by omega))
          have HC2 := Sh.mk (fun (A' : Option Addr) (c' : Nat) (hA : Kd.str.C none' w A' (x.drop i)) (W : World) (h : Ext wr W) => rd_clone w wr W h A' c' (x.length - i) (x.drop i) HTD.out.2 (hA.ext (HU.out.ext.trans h)) (by omega))
          have HT := Sh.mk (fun (W : World) (h : Ext wr W) (Aa Ab : Option Addr) (ca cb : Nat) (g1 : i ≤ ca) (g2 : Kd.str.C (MC w wr) W Aa (x.take i)) (g3 : x.length - i ≤ cb) (g4 : Kd.str.C (MC w wr) W Ab (x.drop i)) =>
            un_try' HU.out h HL.out HX.out Aa Ab ca cb i (x.length - i) (x.take i) (x.drop i) HTD.out.1 HTD.out.2 g1 g2 g3 g4 (by
              have h1 := joinedL_le l (x.take i) (x.drop i) 60 (fun j hj => (HB.out.2 j hj).2.2)
              have := HTD.out.1
              have := HTD.out.2
              omega) (by have := HO.out; omega))
          have hcut := HX.out.cut i cx (by omega) hcx
          by_cases hcq : cx = i
          · rw [if_pos hcq] at hcut
            subst hcq
            have hz : x.length - cx = 0 := by omega
            rw [hz] at HC2 HT
            have HC2e := Sh.mk (HC2.out Ax 0 hcut)
            clear HC2 hcut
            go_region_held3 (fun w' => w'.cell? ⟨w.heap.size + 1, 0, none⟩ = some (.slice Ax x.length cx))
              (first | assumption | exact hux | exact Ext.cell (by assumption) (by assumption))
              (first | (go_at_call 18; (with_reducible refine (HC1.out _ ?_).mono ?_); (first | exact Sh.out (by assumption) | exact Ext.drew (Ext.refl _)); intro e w' h0; obtain ⟨A1, c1, rfl, hl1, hC1, h, hX1⟩ := h0.out; clear h0; have HR1 := Sh.mk (And.intro hl1 hC1); have X1 := Sh.mk hX1; clear hl1 hC1 hX1) | (go_at_call 18; (with_reducible refine (HC2e.out _ ?_).mono ?_); (first | exact Sh.out (by assumption) | exact Ext.drew (Ext.refl _)); intro e w' h0; obtain ⟨A2, c2, rfl, hl2, hC2, h, hX2⟩ := h0.out; clear h0; have HR2 := Sh.mk (And.intro hl2 (And.intro hC2 h)); have X2 := Sh.mk hX2; clear hl2 hC2 hX2) | (go_at_call 16; (with_reducible refine (HT.out _ X2.out _ _ _ _ HR1.out.1 (HR1.out.2.ext HR2.out.2.2) HR2.out.1 HR2.out.2.1).mono ?_); intro e w' h0; obtain ⟨rfl, hU2, _⟩ := h0.out; clear h0; have hc2 := hU2.cx; have HU2 := Sh.mk hU2; clear hU2))
            all_goals go_wp2_with fail
            all_goals go_meet
            all_goals exact HU2
          · rw [if_neg hcq] at hcut
            replace hcut : Kd.str.C none' w (Ax.map fun y => y.add i) (x.drop i) := by simpa [Kd.str] using hcut
            have hcqI : ¬ (cx : Int) = (i : Int) := by omega
            have HC2e := Sh.mk (HC2.out _ (cx - i) hcut)
            clear HC2 hcut
            go_region_held3 (fun w' => w'.cell? ⟨w.heap.size + 1, 0, none⟩ = some (.slice Ax x.length cx))
              (first | assumption | exact hux | exact Ext.cell (by assumption) (by assumption))
              (first | (go_at_call 18; (with_reducible refine (HC1.out _ ?_).mono ?_); (first | exact Sh.out (by assumption) | exact Ext.drew (Ext.refl _)); intro e w' h0; obtain ⟨A1, c1, rfl, hl1, hC1, h, hX1⟩ := h0.out; clear h0; have HR1 := Sh.mk (And.intro hl1 hC1); have X1 := Sh.mk hX1; clear hl1 hC1 hX1) | (go_at_call 18; (with_reducible refine (HC2e.out _ ?_).mono ?_); (first | exact Sh.out (by assumption) | exact Ext.drew (Ext.refl _)); intro e w' h0; obtain ⟨A2, c2, rfl, hl2, hC2, h, hX2⟩ := h0.out; clear h0; have HR2 := Sh.mk (And.intro hl2 (And.intro hC2 h)); have X2 := Sh.mk hX2; clear hl2 hC2 hX2) | (go_at_call 16; (with_reducible refine (HT.out _ X2.out _ _ _ _ HR1.out.1 (HR1.out.2.ext HR2.out.2.2) HR2.out.1 HR2.out.2.1).mono ?_); intro e w' h0; obtain ⟨rfl, hU2, _⟩ := h0.out; clear h0; have hc2 := hU2.cx; have HU2 := Sh.mk hU2; clear hU2))
            all_goals go_wp2_with fail
            all_goals go_meet
            all_goals exact HU2
        case rest =>
          have HU2 := hcut
          clear hcut
          have hux2 := HU2.out.cx
          have hul2 := HU2.out.cl
          obtain ⟨o0, ho0⟩ : ∃ o0, o0 = tried l x (unTo l x i) (x.take i) (x.drop i) := ⟨_, rfl⟩
          rw [← ho0] at HU2
          have HO0 := Sh.mk ho0
          clear ho0 HU
          go_wp2_with fail
          go_loopw [45] (fun v45 wr => ∃ k : Nat, k ≤ l.length ∧ v45 = .int .i64 k ∧ Sh (Un w W0.heap.size w.heap.size (w.heap.size + 1) (W0.heap.size + 1) (.slice Al l.length cl) (.slice Ax x.length cx) (unK l x i o0 k) wr)) (fun v45 _ => l.length - (intOf v45).toNat)
          case atStart => exact ⟨0, by omega, rfl, HU2⟩
          case round =>
            obtain ⟨k, hk, rfl, HU3⟩ := hrel
            by_cases hkl : k < l.length
            · obtain ⟨ad, A0, c0, A1, c1, A2, c2, rfl, hmad, hc0, hc1, hc2, ⟨hl0, hg0⟩, ⟨hl1, hg1⟩, ⟨hl2, hg2⟩⟩ := at_Joint HL.out k hkl
              have hd0 := HU3.out.ext.cell hc0
              have hd1 := HU3.out.ext.cell hc1
              have hd2 := HU3.out.ext.cell hc2
              have hu3 := HU3.out.cx
              have hjl := HB.out.2 _ (List.getElem_mem hkl)
              have HK3 := Sh.mk (unK_succ l x i o0 k hkl)
              have hol : (unK l x i o0 k).length + 1 ≤ 25 * 15 + 25 := by
                have h1 := unK_len l x i o0 k hk
                have h2 := tried_len l x (unTo l x i) (x.take i) (x.drop i)
                rw [← HO0.out] at h2
                have := HO.out
                omega
              have HOL := Sh.mk hol
              clear hol hc0 hc1 hc2 hmad
              obtain ⟨j, hj⟩ : ∃ j, j = l[k] := ⟨_, rfl⟩
              rw [← hj] at hd0 hd1 hd2 hl0 hg0 hl1 hg1 hl2 hg2 hjl HK3
              clear hj
              obtain ⟨o3, ho3⟩ : ∃ o3, o3 = unK l x i o0 k := ⟨_, rfl⟩
              rw [← ho3] at HU3 HK3 HOL
              clear ho3
              have HG := Sh.mk (And.intro hg0 (And.intro hg1 hg2))
              clear hg0 hg1 hg2
              obtain ⟨hjA, hjB, hjC⟩ := hjl
              obtain ⟨bq, hbq⟩ : ∃ bq, bq = beginsB (x.drop i) j.C := ⟨_, rfl⟩
              have HBQ := Sh.mk hbq
              have hwlt : w.heap.size + 1 < wr.heap.size := by have := HU3.out.size; omega
              have hwne : ¬ w.heap.size + 1 = wr.heap.size := by omega
              have HBg := Sh.mk (fun (A' : Option Addr) (c' : Nat) (hc' : x.length - i ≤ c') (hA : Kd.str.C none' w A' (x.drop i)) (W : World) (h : Ext w W) =>
                (show Calls Try.prog 19 #[.slice A' (x.length - i) c', .slice A2 j.C.length c2] W (fun e w' => e = .returned (.bool bq) ∧ Dr W w') from by
                  have h1 := begins_calls A' A2 c' c2 (x.drop i) j.C none' none' W (by rw [HTD.out.2]; exact hc') (hA.ext h) (HG.out.2.2.ext h)
                  rw [HTD.out.2, ← hbq] at h1
                  exact h1))
              clear hbq
              have hcut := HX.out.cut i cx (by omega) hcx
              by_cases hcq : cx = i
              · rw [if_pos hcq] at hcut
                have hz : x.length - i = 0 := by omega
                rw [hz] at HBg
                have HBe := Sh.mk (HBg.out Ax 0 (by omega) hcut)
                clear HBg
                cases bq with
                | false =>
                  subst hcq
                  go_wp2_with fail
                  go_quiet ((go_at_call 19; exact Calls.quiet_of (HBe.out _ ((HU3.out.ext.alloc _).drewN _))))
                  go_wp2_with fail
                  go_roundw
                  case measure => simp [intOf]; omega
                  case rel => exact ⟨k + 1, by omega, by go_num, by rw [HK3.out]; unfold unJ; rw [← HBQ.out]; exact ⟨HU3.out.more (((Ext.refl _).alloc _).drewN _)⟩⟩
                | true =>
                  obtain ⟨hce, hbe⟩ : j.C.length ≤ x.length - i ∧ True := ⟨by have := HBQ.out.symm; unfold beginsB at this; rw [Bool.and_eq_true, decide_eq_true_eq, HTD.out.2] at this; exact this.1, trivial⟩
                  obtain ⟨e, he⟩ : ∃ e, e = i + j.C.length := ⟨_, rfl⟩
                  have hw : IntKind.i64.wrap ((i : Int) + (j.C.length : Int)) = (e : Int) := by rw [IntKind.wrap_i64]; omega
                  have heI : (e : Int) ≤ (x.length : Int) := by omega
                  have hecI : (e : Int) ≤ (cx : Int) := by omega
                  have hdle : (x.drop e).length = x.length - e := by simp
                  have HDL := Sh.mk hdle
                  have HE := Sh.mk he
                  have hcute := HX.out.cut e cx (by omega) hcx
                  have HCO1 := Sh.mk (fun (W : World) (h : Ext wr W) (b1 : Nat) (hh : W.heap[b1]? = some (.cells #[.slice Ax i cx, .slice A0 j.A.length c0] 23 (0, 0))) => rd_concat w wr W h b1 Ax A0 i j.A.length cx c0 (x.take i) j.A HTD.out.1 rfl (by omega) hl0 ((HX.out.take i).ext (HU3.out.ext.trans h)) (HG.out.1.ext (HU3.out.ext.trans h)) (by omega) hh)
                  have HCO2 := Sh.mk (fun (A' : Option Addr) (n' c' : Nat) (hn' : n' = x.length - e) (hc' : n' ≤ c') (hA : Kd.str.C none' w A' (x.drop e)) (W : World) (h : Ext wr W) (b1 : Nat) (hh : W.heap[b1]? = some (.cells #[.slice A1 j.B.length c1, .slice A' n' c'] 23 (0, 0))) => rd_concat w wr W h b1 A1 A' j.B.length n' c1 c' j.B (x.drop e) rfl (by rw [hn', hdle]) hl1 hc' (HG.out.2.1.ext (HU3.out.ext.trans h)) (hA.ext (HU3.out.ext.trans h)) (by omega) hh)
                  have HT := Sh.mk (fun (nb : Nat) (hnb : nb = j.B.length + (x.length - e)) (W : World) (h : Ext wr W) (Aa Ab : Option Addr) (ca cb : Nat) (g1 : i + j.A.length ≤ ca) (g2 : Kd.str.C (MC w wr) W Aa (x.take i ++ j.A)) (g3 : nb ≤ cb) (g4 : Kd.str.C (MC w wr) W Ab (j.B ++ x.drop e)) =>
                    un_try' HU3.out h HL.out HX.out Aa Ab ca cb (i + j.A.length) nb (x.take i ++ j.A) (j.B ++ x.drop e) (by rw [List.length_append, HTD.out.1]) (by rw [List.length_append, hdle, hnb]) g1 g2 g3 g4 (by
                      have h1 := joinedL_le l (x.take i ++ j.A) (j.B ++ x.drop e) 60 (fun j hj => (HB.out.2 j hj).2.2)
                      rw [List.length_append, List.length_append, HTD.out.1, hdle] at h1
                      omega) (by have := HOL.out; omega))
                  clear hdle
                  have hc0 : j.C.length = 0 := by omega
                  have hee : e = cx := by omega
                  rw [if_pos hee.symm] at hcute
                  have HCe := Sh.mk (HCO2.out Ax 0 0 (by omega) (by omega) hcute)
                  have HTe := Sh.mk (HT.out j.B.length (by omega))
                  rw [hee] at hw
                  clear hee he hc0 hce hcute HCO2 HT heI hecI
                  have hcq' := hcq.symm
                  clear hcq
                  subst hcq'
                  go_wp2_with fail
                  go_quiet ((go_at_call 19; exact Calls.quiet_of (HBe.out _ ((HU3.out.ext.alloc _).drewN _))))
                  go_wp2_with fail
                  go_region_held3 (fun w' => w'.cell? ⟨w.heap.size + 1, 0, none⟩ = some (.slice Ax x.length i) ∧ w'.cell? ⟨wr.heap.size, 0, none⟩ = some (.slice A0 j.A.length c0) ∧ w'.cell? ⟨wr.heap.size, 1, none⟩ = some (.slice A1 j.B.length c1) ∧ w'.cell? ⟨wr.heap.size, 2, none⟩ = some (.slice A2 j.C.length c2))
                    (first | assumption | exact keep4 (by assumption) (by assumption) | exact keep4 (by assumption) (Ext.alloc (Ext.refl _) _) | exact ⟨(Ext.drew (Ext.drewN (Ext.alloc (Ext.refl _) _) _)).cell hu3, cell_of_row (wr.alloc _) _ 0 _ _ _ (heap_new rfl), cell_of_row (wr.alloc _) _ 1 _ _ _ (heap_new rfl), cell_of_row (wr.alloc _) _ 2 _ _ _ (heap_new rfl)⟩)
                    (first | (go_at_call 20; (with_reducible refine (HCO1.out _ ?_ _ ?_).mono ?_); (first | exact Sh.out (by assumption) | exact Ext.alloc (Sh.out (by assumption)) _ | exact Ext.alloc (Ext.drew (Ext.drewN (Ext.alloc (Ext.refl _) _) _)) _ | exact Ext.alloc (Ext.alloc (Ext.drew (Ext.drewN (Ext.alloc (Ext.refl _) _) _)) _) _); (first | exact heap_new rfl | exact heap_old (heap_new rfl) | exact Ext.block' (by assumption) (heap_new rfl) | exact Ext.block' (by assumption) (heap_old (heap_new rfl)) | exact heap_new1 | exact heap_new1' | exact heap_new2 | exact Ext.block' (by assumption) heap_new1 | exact Ext.block' (by assumption) heap_new1' | exact Ext.block' (by assumption) heap_new2); intro e9 w' h0; obtain ⟨D1, d1, rfl, hl1', hC1, h, hX1⟩ := h0.out; clear h0; have HR1 := Sh.mk (And.intro hl1' hC1); have X1 := Sh.mk hX1; clear hl1' hC1 hX1) | (go_at_call 20; (with_reducible refine (HCe.out _ ?_ _ ?_).mono ?_); (first | exact Sh.out (by assumption) | exact Ext.alloc (Sh.out (by assumption)) _ | exact Ext.alloc (Ext.drew (Ext.drewN (Ext.alloc (Ext.refl _) _) _)) _ | exact Ext.alloc (Ext.alloc (Ext.drew (Ext.drewN (Ext.alloc (Ext.refl _) _) _)) _) _); (first | exact heap_new rfl | exact heap_old (heap_new rfl) | exact Ext.block' (by assumption) (heap_new rfl) | exact Ext.block' (by assumption) (heap_old (heap_new rfl)) | exact heap_new1 | exact heap_new1' | exact heap_new2 | exact Ext.block' (by assumption) heap_new1 | exact Ext.block' (by assumption) heap_new1' | exact Ext.block' (by assumption) heap_new2); intro e9 w' h0; obtain ⟨D2, d2, rfl, hl2', hC2, h, hX2⟩ := h0.out; clear h0; have HR2 := Sh.mk (And.intro hl2' (And.intro hC2 (show Kd.str.C (MC w wr) w' D1 (x.take i ++ j.A) from by first | exact HR1.out.2.ext h | exact HR1.out.2.ext (Ext.trans (Ext.alloc (Ext.refl _) _) h)))); have X2 := Sh.mk hX2; clear hl2' hC2 hX2) | (go_at_call 16; (with_reducible refine (HTe.out _ X2.out _ _ _ _ HR1.out.1 HR2.out.2.2 HR2.out.1 HR2.out.2.1).mono ?_); intro e9 w' h0; obtain ⟨rfl, hU9, hk9⟩ := h0.out; clear h0; have hS9 := keep4' hU9.cx hk9 (fun hm => Nat.lt_irrefl _ hm.2) (by assumption); have HU9 := Sh.mk hU9; clear hU9 hk9))
                  all_goals go_wp2_with fail
                  all_goals go_roundw
                  all_goals first | (case measure => simp [intOf]; omega) | skip
                  all_goals exact ⟨k + 1, by omega, by go_num, by rw [HK3.out]; unfold unJ; rw [if_pos HBQ.out.symm, ← HE.out]; exact HU9⟩
              · rw [if_neg hcq] at hcut
                replace hcut : Kd.str.C none' w (Ax.map fun y => y.add i) (x.drop i) := by simpa [Kd.str] using hcut
                have hcqI : ¬ (cx : Int) = (i : Int) := by omega
                have HBe := Sh.mk (HBg.out _ (cx - i) (by omega) hcut)
                clear HBg hcut
                cases bq with
                | false =>
                  go_wp2_with fail
                  go_quiet ((go_at_call 19; exact Calls.quiet_of (HBe.out _ ((HU3.out.ext.alloc _).drewN _))))
                  go_wp2_with fail
                  go_roundw
                  case measure => simp [intOf]; omega
                  case rel => exact ⟨k + 1, by omega, by go_num, by rw [HK3.out]; unfold unJ; rw [← HBQ.out]; exact ⟨HU3.out.more (((Ext.refl _).alloc _).drewN _)⟩⟩
                | true =>
                  obtain ⟨hce, hbe⟩ : j.C.length ≤ x.length - i ∧ True := ⟨by have := HBQ.out.symm; unfold beginsB at this; rw [Bool.and_eq_true, decide_eq_true_eq, HTD.out.2] at this; exact this.1, trivial⟩
                  obtain ⟨e, he⟩ : ∃ e, e = i + j.C.length := ⟨_, rfl⟩
                  have hw : IntKind.i64.wrap ((i : Int) + (j.C.length : Int)) = (e : Int) := by rw [IntKind.wrap_i64]; omega
                  have heI : (e : Int) ≤ (x.length : Int) := by omega
                  have hecI : (e : Int) ≤ (cx : Int) := by omega
                  have hdle : (x.drop e).length = x.length - e := by simp
                  have HDL := Sh.mk hdle
                  have HE := Sh.mk he
                  have hcute := HX.out.cut e cx (by omega) hcx
                  have HCO1 := Sh.mk (fun (W : World) (h : Ext wr W) (b1 : Nat) (hh : W.heap[b1]? = some (.cells #[.slice Ax i cx, .slice A0 j.A.length c0] 23 (0, 0))) => rd_concat w wr W h b1 Ax A0 i j.A.length cx c0 (x.take i) j.A HTD.out.1 rfl (by omega) hl0 ((HX.out.take i).ext (HU3.out.ext.trans h)) (HG.out.1.ext (HU3.out.ext.trans h)) (by omega) hh)
                  have HCO2 := Sh.mk (fun (A' : Option Addr) (n' c' : Nat) (hn' : n' = x.length - e) (hc' : n' ≤ c') (hA : Kd.str.C none' w A' (x.drop e)) (W : World) (h : Ext wr W) (b1 : Nat) (hh : W.heap[b1]? = some (.cells #[.slice A1 j.B.length c1, .slice A' n' c'] 23 (0, 0))) => rd_concat w wr W h b1 A1 A' j.B.length n' c1 c' j.B (x.drop e) rfl (by rw [hn', hdle]) hl1 hc' (HG.out.2.1.ext (HU3.out.ext.trans h)) (hA.ext (HU3.out.ext.trans h)) (by omega) hh)
                  have HT := Sh.mk (fun (nb : Nat) (hnb : nb = j.B.length + (x.length - e)) (W : World) (h : Ext wr W) (Aa Ab : Option Addr) (ca cb : Nat) (g1 : i + j.A.length ≤ ca) (g2 : Kd.str.C (MC w wr) W Aa (x.take i ++ j.A)) (g3 : nb ≤ cb) (g4 : Kd.str.C (MC w wr) W Ab (j.B ++ x.drop e)) =>
                    un_try' HU3.out h HL.out HX.out Aa Ab ca cb (i + j.A.length) nb (x.take i ++ j.A) (j.B ++ x.drop e) (by rw [List.length_append, HTD.out.1]) (by rw [List.length_append, hdle, hnb]) g1 g2 g3 g4 (by
                      have h1 := joinedL_le l (x.take i ++ j.A) (j.B ++ x.drop e) 60 (fun j hj => (HB.out.2 j hj).2.2)
                      rw [List.length_append, List.length_append, HTD.out.1, hdle] at h1
                      omega) (by have := HOL.out; omega))
                  clear hdle
                  by_cases hee : e = cx
                  · rw [if_pos hee.symm] at hcute
                    have hz : x.length - cx = 0 := by omega
                    have HCe := Sh.mk (HCO2.out Ax 0 0 (by omega) (by omega) hcute)
                    have HTe := Sh.mk (HT.out j.B.length (by omega))
                    rw [hee] at hw
                    have hxc : (cx : Int) ≤ (x.length : Int) := by omega
                    clear hee he hce hcute HCO2 HT heI hecI
                    go_wp2_with fail
                    go_quiet ((go_at_call 19; exact Calls.quiet_of (HBe.out _ ((HU3.out.ext.alloc _).drewN _))))
                    go_wp2_with fail
                    go_region_held3 (fun w' => w'.cell? ⟨w.heap.size + 1, 0, none⟩ = some (.slice Ax x.length cx) ∧ w'.cell? ⟨wr.heap.size, 0, none⟩ = some (.slice A0 j.A.length c0) ∧ w'.cell? ⟨wr.heap.size, 1, none⟩ = some (.slice A1 j.B.length c1) ∧ w'.cell? ⟨wr.heap.size, 2, none⟩ = some (.slice A2 j.C.length c2))
                      (first | assumption | exact keep4 (by assumption) (by assumption) | exact keep4 (by assumption) (Ext.alloc (Ext.refl _) _) | exact ⟨(Ext.drew (Ext.drewN (Ext.alloc (Ext.refl _) _) _)).cell hu3, cell_of_row (wr.alloc _) _ 0 _ _ _ (heap_new rfl), cell_of_row (wr.alloc _) _ 1 _ _ _ (heap_new rfl), cell_of_row (wr.alloc _) _ 2 _ _ _ (heap_new rfl)⟩)
                      (first | (go_at_call 20; (with_reducible refine (HCO1.out _ ?_ _ ?_).mono ?_); (first | exact Sh.out (by assumption) | exact Ext.alloc (Sh.out (by assumption)) _ | exact Ext.alloc (Ext.drew (Ext.drewN (Ext.alloc (Ext.refl _) _) _)) _ | exact Ext.alloc (Ext.alloc (Ext.drew (Ext.drewN (Ext.alloc (Ext.refl _) _) _)) _) _); (first | exact heap_new rfl | exact heap_old (heap_new rfl) | exact Ext.block' (by assumption) (heap_new rfl) | exact Ext.block' (by assumption) (heap_old (heap_new rfl)) | exact heap_new1 | exact heap_new1' | exact heap_new2 | exact Ext.block' (by assumption) heap_new1 | exact Ext.block' (by assumption) heap_new1' | exact Ext.block' (by assumption) heap_new2); intro e9 w' h0; obtain ⟨D1, d1, rfl, hl1', hC1, h, hX1⟩ := h0.out; clear h0; have HR1 := Sh.mk (And.intro hl1' hC1); have X1 := Sh.mk hX1; clear hl1' hC1 hX1) | (go_at_call 20; (with_reducible refine (HCe.out _ ?_ _ ?_).mono ?_); (first | exact Sh.out (by assumption) | exact Ext.alloc (Sh.out (by assumption)) _ | exact Ext.alloc (Ext.drew (Ext.drewN (Ext.alloc (Ext.refl _) _) _)) _ | exact Ext.alloc (Ext.alloc (Ext.drew (Ext.drewN (Ext.alloc (Ext.refl _) _) _)) _) _); (first | exact heap_new rfl | exact heap_old (heap_new rfl) | exact Ext.block' (by assumption) (heap_new rfl) | exact Ext.block' (by assumption) (heap_old (heap_new rfl)) | exact heap_new1 | exact heap_new1' | exact heap_new2 | exact Ext.block' (by assumption) heap_new1 | exact Ext.block' (by assumption) heap_new1' | exact Ext.block' (by assumption) heap_new2); intro e9 w' h0; obtain ⟨D2, d2, rfl, hl2', hC2, h, hX2⟩ := h0.out; clear h0; have HR2 := Sh.mk (And.intro hl2' (And.intro hC2 (show Kd.str.C (MC w wr) w' D1 (x.take i ++ j.A) from by first | exact HR1.out.2.ext h | exact HR1.out.2.ext (Ext.trans (Ext.alloc (Ext.refl _) _) h)))); have X2 := Sh.mk hX2; clear hl2' hC2 hX2) | (go_at_call 16; (with_reducible refine (HTe.out _ X2.out _ _ _ _ HR1.out.1 HR2.out.2.2 HR2.out.1 HR2.out.2.1).mono ?_); intro e9 w' h0; obtain ⟨rfl, hU9, hk9⟩ := h0.out; clear h0; have hS9 := keep4' hU9.cx hk9 (fun hm => Nat.lt_irrefl _ hm.2) (by assumption); have HU9 := Sh.mk hU9; clear hU9 hk9))
                    all_goals go_wp2_with fail
                    all_goals go_roundw
                    all_goals first | (case measure => simp [intOf]; omega) | skip
                    all_goals exact ⟨k + 1, by omega, by go_num, by rw [HK3.out]; unfold unJ; rw [if_pos HBQ.out.symm, ← HE.out]; exact HU9⟩
                  · rw [if_neg (fun h => hee h.symm)] at hcute
                    replace hcute : Kd.str.C none' w (Ax.map fun y => y.add e) (x.drop e) := by simpa [Kd.str] using hcute
                    have hne : ¬ cx = e := fun h => hee h.symm
                    have hneI : ¬ (cx : Int) = (e : Int) := by omega
                    have HCe := Sh.mk (HCO2.out _ (x.length - e) (cx - e) rfl (by omega) hcute)
                    have HTe := Sh.mk (HT.out (j.B.length + (x.length - e)) rfl)
                    clear hee he hce hcute HCO2 HT
                    go_wp2_with fail
                    go_quiet ((go_at_call 19; exact Calls.quiet_of (HBe.out _ ((HU3.out.ext.alloc _).drewN _))))
                    go_wp2_with fail
                    go_region_held3 (fun w' => w'.cell? ⟨w.heap.size + 1, 0, none⟩ = some (.slice Ax x.length cx) ∧ w'.cell? ⟨wr.heap.size, 0, none⟩ = some (.slice A0 j.A.length c0) ∧ w'.cell? ⟨wr.heap.size, 1, none⟩ = some (.slice A1 j.B.length c1) ∧ w'.cell? ⟨wr.heap.size, 2, none⟩ = some (.slice A2 j.C.length c2))
                      (first | assumption | exact keep4 (by assumption) (by assumption) | exact keep4 (by assumption) (Ext.alloc (Ext.refl _) _) | exact ⟨(Ext.drew (Ext.drewN (Ext.alloc (Ext.refl _) _) _)).cell hu3, cell_of_row (wr.alloc _) _ 0 _ _ _ (heap_new rfl), cell_of_row (wr.alloc _) _ 1 _ _ _ (heap_new rfl), cell_of_row (wr.alloc _) _ 2 _ _ _ (heap_new rfl)⟩)
                      (first | (go_at_call 20; (with_reducible refine (HCO1.out _ ?_ _ ?_).mono ?_); (first | exact Sh.out (by assumption) | exact Ext.alloc (Sh.out (by assumption)) _ | exact Ext.alloc (Ext.drew (Ext.drewN (Ext.alloc (Ext.refl _) _) _)) _ | exact Ext.alloc (Ext.alloc (Ext.drew (Ext.drewN (Ext.alloc (Ext.refl _) _) _)) _) _); (first | exact heap_new rfl | exact heap_old (heap_new rfl) | exact Ext.block' (by assumption) (heap_new rfl) | exact Ext.block' (by assumption) (heap_old (heap_new rfl)) | exact heap_new1 | exact heap_new1' | exact heap_new2 | exact Ext.block' (by assumption) heap_new1 | exact Ext.block' (by assumption) heap_new1' | exact Ext.block' (by assumption) heap_new2); intro e9 w' h0; obtain ⟨D1, d1, rfl, hl1', hC1, h, hX1⟩ := h0.out; clear h0; have HR1 := Sh.mk (And.intro hl1' hC1); have X1 := Sh.mk hX1; clear hl1' hC1 hX1) | (go_at_call 20; (with_reducible refine (HCe.out _ ?_ _ ?_).mono ?_); (first | exact Sh.out (by assumption) | exact Ext.alloc (Sh.out (by assumption)) _ | exact Ext.alloc (Ext.drew (Ext.drewN (Ext.alloc (Ext.refl _) _) _)) _ | exact Ext.alloc (Ext.alloc (Ext.drew (Ext.drewN (Ext.alloc (Ext.refl _) _) _)) _) _); (first | exact heap_new rfl | exact heap_old (heap_new rfl) | exact Ext.block' (by assumption) (heap_new rfl) | exact Ext.block' (by assumption) (heap_old (heap_new rfl)) | exact heap_new1 | exact heap_new1' | exact heap_new2 | exact Ext.block' (by assumption) heap_new1 | exact Ext.block' (by assumption) heap_new1' | exact Ext.block' (by assumption) heap_new2); intro e9 w' h0; obtain ⟨D2, d2, rfl, hl2', hC2, h, hX2⟩ := h0.out; clear h0; have HR2 := Sh.mk (And.intro hl2' (And.intro hC2 (show Kd.str.C (MC w wr) w' D1 (x.take i ++ j.A) from by first | exact HR1.out.2.ext h | exact HR1.out.2.ext (Ext.trans (Ext.alloc (Ext.refl _) _) h)))); have X2 := Sh.mk hX2; clear hl2' hC2 hX2) | (go_at_call 16; (with_reducible refine (HTe.out _ X2.out _ _ _ _ HR1.out.1 HR2.out.2.2 HR2.out.1 HR2.out.2.1).mono ?_); intro e9 w' h0; obtain ⟨rfl, hU9, hk9⟩ := h0.out; clear h0; have hS9 := keep4' hU9.cx hk9 (fun hm => Nat.lt_irrefl _ hm.2) (by assumption); have HU9 := Sh.mk hU9; clear hU9 hk9))
                    all_goals go_wp2_with fail
                    all_goals go_roundw
                    all_goals first | (case measure => simp [intOf]; omega) | skip
                    all_goals exact ⟨k + 1, by omega, by go_num, by rw [HK3.out]; unfold unJ; rw [if_pos HBQ.out.symm, ← HE.out]; exact HU9⟩
            · go_wp2_with fail
              go_roundw
              case measure => simp [intOf]; omega
              case rel =>
                obtain rfl : k = l.length := by omega
                exact ⟨i + 1, by omega, by go_num, by rw [unTo_succ]; unfold unI; rw [← HO0.out]; exact HU3⟩
      · obtain ⟨vo, hvg, hOw⟩ := HU.out.row
        have hvc : wr.cell? ⟨W0.heap.size, 0, none⟩ = some vo := cell_of_row wr _ 0 _ _ _ hvg
        have HS := Sh.mk (fun (W : World) (hW : Ext wr W) => sort_calls (W0.heap.size + 1) (fun k => k = W0.heap.size) W vo (unTo l x i) (hOw.ext hW))
        have hob : ∀ k, vo.ownBlock = some k → W0.heap.size + 1 ≤ k ∧ k < wr.heap.size := fun k hk => hOw.lt k hk
        have HOB := Sh.mk hob
        have hvs : ∃ A n c, vo = .slice A n c := by obtain ⟨A, c, e, _⟩ := hOw.isSl; exact ⟨A, _, c, e⟩
        obtain ⟨A9, n9, c9, rfl⟩ := hvs
        have HOW := Sh.mk hOw
        have hgl := HU.out.size
        have hne1 : ¬ W0.heap.size = wr.heap.size := by omega
        have hlt1 : W0.heap.size < wr.heap.size := by omega
        have HXW := Sh.mk HU.out.ext
        have hix : i = x.length + 1 := by omega
        have HM := Sh.mk (show unTo l x (x.length + 1) = unTo l x i by rw [hix])
        clear hob hOw hvg hbl hbx hix
        go_wp2_with fail
        (with_reducible refine (HS.out _ ((Ext.refl _).alloc _)).mono ?_)
        intro e w2 h0
        obtain ⟨rfl, ys, hp2, hO2, hk2⟩ := h0.out
        clear h0
        have hv2 : w2.cell? ⟨W0.heap.size, 0, none⟩ = some (.slice A9 n9 c9) := hk2.cell (p := ⟨W0.heap.size, 0, none⟩) (fun e => by have := (HOB.out W0.heap.size e).1; omega) ((Ext.alloc (Ext.refl wr) _).cell hvc)
        have hf2 : w2.cell? ⟨wr.heap.size, 0, none⟩ = some (.func (.func 21) #[] #[]) := hk2.cell (p := ⟨wr.heap.size, 0, none⟩) (fun e => by have := (HOB.out wr.heap.size e).2; omega) (cell_of_row _ _ 0 _ _ _ (heap_new rfl))
        have HCm := Sh.mk (compact_calls wr.heap.size (W0.heap.size + 1) (fun k => k = W0.heap.size) w2 (.slice A9 n9 c9) ys hO2 hf2 (fun g' hg' e => by subst e; have := (HOB.out _ hg').2; omega))
        have HK2 := Sh.mk (And.intro hk2 hp2)
        clear hk2 hp2 hO2
        go_wp2_with fail
        (with_reducible refine HCm.out.mono ?_)
        intro e w3 h1
        obtain ⟨v3, rfl, hO3, hk3⟩ := h1.out
        clear h1
        have HK3 := Sh.mk (And.intro hk3 hO3)
        clear hk3 hO3
        go_wp2_with fail
        go_ret2
        refine ⟨v3, compTo ys ys.length, rfl, HK3.out.2.isSl.weak (fun k _ h => h.elim), fun p hp => ?_, ?_⟩
        · rw [HM.out] at hp
          obtain ⟨q, hq, rfl⟩ := List.mem_iff_getElem.1 (HK2.out.2.mem_iff.2 hp)
          exact compTo_mem ys ys.length q hq hq
        · have hn : ∀ i, i < w.heap.size → ¬ (Value.slice A9 n9 c9).ownBlock = some i := fun i hi e => by have := (HOB.out _ e).1; omega
          exact ((HXW.out.alloc _).then HK2.out.1 hn).then HK3.out.1 hn
end Go.Proofs.Ythfonlnlopmonaa

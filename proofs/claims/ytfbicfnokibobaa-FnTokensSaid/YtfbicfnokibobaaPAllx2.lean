/- Proved here: contracts of functions of the given program, or lemmas on them, for the laws of this seat. Written by xprint.py, a program of this session, on the ground of the kit's print; parts by hand: wip/x/ext. -/
import Derived.Test.YtfbicfnokibobaaPAllx0
import Derived.Test.YtfbicfnokibobaaPAllx1
import Derived.Test.YtfbicfnokibobaaPAllx4
import Derived.Test.YtfbicfnokibobaaPAllx8
namespace Go.Proofs.Ytfbicfnokibobaa.PAll
open Go.RowKit Go.Proofs.YtfbicfnokibobaaW.PrintWords Go.Proofs.YtfbicfnokibobaaW.PrintLast Go.Proofs.YtfbicfnokibobaaW.PrintMore
attribute [local go_sem] max2_int min2_int max_two min_two max_three min_three max_four min_four   -- for this text's walks alone
set_option linter.unusedVariables false
set_option linter.unusedSimpArgs false

/-! ### spec_PolicePulses: function 21 -/
def spec_PolicePulses.l0 : Nat → Int → Int → List (S35) → List Bool → Int → Int → Int → Option (List Bool)
  | 0, _, _, _, _, _, _, _ => none
  | k + 1, x0, x1, x2, x7, x8, x9, x10 => if x10 < (x2.length : Int) then (if 0 ≤ x10 then (if (mn x1 (wrap64 (x8 + (wrap64 (x0 * (wrap64 (((rd_T35 x2 x10).f0) - x9))))))) ≥ ((rd_T35 x2 x10).f1) then (if x7.length < 140737488355328 then (spec_PolicePulses.l0 k x0 x1 x2 (x7 ++ [decide ((mn x1 (wrap64 (x8 + (wrap64 (x0 * (wrap64 (((rd_T35 x2 x10).f0) - x9))))))) ≥ ((rd_T35 x2 x10).f1))]) (wrap64 ((mn x1 (wrap64 (x8 + (wrap64 (x0 * (wrap64 (((rd_T35 x2 x10).f0) - x9))))))) - ((rd_T35 x2 x10).f1))) ((rd_T35 x2 x10).f0) (wrap64 (x10 + 1))) else (none)) else (if x7.length < 140737488355328 then (spec_PolicePulses.l0 k x0 x1 x2 (x7 ++ [decide ((mn x1 (wrap64 (x8 + (wrap64 (x0 * (wrap64 (((rd_T35 x2 x10).f0) - x9))))))) ≥ ((rd_T35 x2 x10).f1))]) (mn x1 (wrap64 (x8 + (wrap64 (x0 * (wrap64 (((rd_T35 x2 x10).f0) - x9))))))) ((rd_T35 x2 x10).f0) (wrap64 (x10 + 1))) else (none))) else (none)) else (some x7)
def spec_PolicePulses.f (k : Nat) (a0 : Int) (a1 : Int) (l2 : List (S35)) : Option (List Bool) := (some (([] : List Bool) : List Bool)).bind fun y109 => ((spec_l14Fits.f k a0 a1 l2).bind fun t112 => (if t112 = true then (spec_PolicePulses.l0 k a0 a1 l2 y109 a1 0 0) else (some y109)))
theorem spec_PolicePulses.mono_l : ∀ k, (∀ y0 y1 y2 y3 y4 y5 y6, LeO (spec_PolicePulses.l0 k y0 y1 y2 y3 y4 y5 y6) (spec_PolicePulses.l0 (k + 1) y0 y1 y2 y3 y4 y5 y6))
  | 0 => fun _ _ _ _ _ _ _ r h => by simp [spec_PolicePulses.l0] at h
  | k + 1 => by
    have ih0 := spec_PolicePulses.mono_l k
    · intro y0 y1 y2 y3 y4 y5 y6
      unfold spec_PolicePulses.l0
      repeat' first
      | (with_reducible exact ih0 _ _ _ _ _ _ _)
      | (with_reducible exact spec_l14Fits.mono _ _ _ _)
      | (with_reducible exact LeO.refl _)
      | (with_reducible exact LeO.none _)
      | (with_reducible refine LeO.ite ?_ ?_)
      | (with_reducible refine LeO.bind ?_ (fun _ => ?_))
      | exact ih0 _ _ _ _ _ _ _
      | exact spec_l14Fits.mono _ _ _ _
      | exact LeO.none _
      | refine LeO.ite ?_ ?_
      | refine LeO.bind ?_ (fun _ => ?_)
theorem spec_PolicePulses.mono : ∀ a0 a1 a2 k, LeO (spec_PolicePulses.f k a0 a1 a2) (spec_PolicePulses.f (k + 1) a0 a1 a2) := by
  intro a0 a1 a2 k
  have ih0 := spec_PolicePulses.mono_l k
  unfold spec_PolicePulses.f
  repeat' first
      | (with_reducible exact ih0 _ _ _ _ _ _ _)
      | (with_reducible exact spec_l14Fits.mono _ _ _ _)
      | (with_reducible exact LeO.refl _)
      | (with_reducible exact LeO.none _)
      | (with_reducible refine LeO.ite ?_ ?_)
      | (with_reducible refine LeO.bind ?_ (fun _ => ?_))
      | exact ih0 _ _ _ _ _ _ _
      | exact spec_l14Fits.mono _ _ _ _
      | exact LeO.none _
      | refine LeO.ite ?_ ?_
      | refine LeO.bind ?_ (fun _ => ?_)
set_option maxHeartbeats 8000000 in
set_option maxRecDepth 100000 in
theorem spec_PolicePulses.calls (k : Nat) (a0 : Int) (a1 : Int) (A2 : Option Addr) (c2 : Nat) (l2 : List (S35)) (r : List Bool) (w : World) (hr2 : Kd.C k35 w A2 l2.length l2) (hc2 : l2.length ≤ c2) (h : spec_PolicePulses.f k a0 a1 l2 = some r) :
    Calls Try.prog 21 #[.int .i64 a0, .int .i64 a1, .slice A2 l2.length c2] w fun e w' => ∃ v0_ : Value, e = .returned (v0_) ∧ Kd.R Kd.bool 4 w' w.heap.size (fun _ => True) v0_ r ∧ Below w.heap.size w w' := by
  have HR2 := Aside0.mk hr2
  have HC2 := Aside0.mk hc2
  clear hr2 hc2
  have HB := Aside0.mk (Below.refl w.heap.size w)
  have H : ((some (([] : List Bool) : List Bool)).bind fun y109 => ((spec_l14Fits.f k a0 a1 l2).bind fun t112 => (if t112 = true then (spec_PolicePulses.l0 k a0 a1 l2 y109 a1 0 0) else (some y109)))) = some r := h
  clear h
  obtain ⟨y109, hy109⟩ : ∃ y_ : List Bool, y_ = (([] : List Bool)) := ⟨_, rfl⟩
  replace H : ((spec_l14Fits.f k a0 a1 l2).bind fun t112 => (if t112 = true then (spec_PolicePulses.l0 k a0 a1 l2 y109 a1 0 0) else (some y109))) = some r := by first | (rw [hy109]; with_reducible exact H) | (have H2_ := (Option.bind_some _ _).symm.trans H; rw [hy109]; with_reducible exact H2_) | (have H2_ := (Option.bind_some _ _).symm.trans H; with_reducible exact H2_) | with_reducible exact H | (rw [hy109]; exact H) | exact H
  have Ny109 := Aside0.mk hy109
  clear hy109
  replace H := Option.bind_eq_some_iff.mp H
  obtain ⟨t112, A40, H⟩ := H
  replace H : (if t112 = true then (spec_PolicePulses.l0 k a0 a1 l2 y109 a1 0 0) else (some y109)) = some r := H
  have A4 := Aside0.mk A40
  clear A40
  by_cases c5 : t112 = true
  · subst c5
    have H1 : (spec_PolicePulses.l0 k a0 a1 l2 y109 a1 0 0) = some r := by rw [if_pos rfl] at H; exact H
    clear H
    have H := H1
    clear H1
    have H' := Aside0.mk H
    clear H
    go_enter Try.func21, Try.ntmps21
    go_wp2_with (first | ((with_reducible refine gate_dst (N := 12) rfl ?_); refine Kd.R_lit Kd.bool _ 4 ?hg (N := 12) ?hd (xs := ([] : List Bool)) (inner := []) (ok := fun _ => True) (okp := fun _ => True) ?hr ?hp (fun _ hk => hk) trivial (Below.refl _ _) (Nat.le_refl _) (by simp) ?_; (case hd => rfl); (case hg => rfl); (case hr => first | (go_simp; done) | (go_simp; rfl)); (case hp => exact (Reps.none _ _)); intro v110 w6 ho7 hb hg_ hnew_; clear hg_ hnew_; (first | rw [← Ny109.out] at ho7 | (simp only [Int.reduceToNat] at ho7; rw [← Ny109.out] at ho7)); have n0_ := Aside0.mk (Kd.R_lower ho7 (below_size (by repeat (first | (with_reducible first | exact HB.out | apply below_alloc | apply pw_below_drewN | apply below_drew1) | exact HB.out)))); have n1_ := Aside0.mk (below_step (by repeat (first | (with_reducible first | exact HB.out | apply below_alloc | apply pw_below_drewN | apply below_drew1) | exact HB.out)) hb); clear HB; have HO111 := n0_; have HB := n1_; clear n0_ n1_; clear hb ho7) | ((with_reducible refine gate_callee (f := 40) rfl ?_); refine goesL_ (some 16) rfl rfl Try.func40 (by kernel_rfl) rfl #[.int .i64 a0, .int .i64 a1, .slice A2 l2.length c2] rfl (by (try simp only [List.map_toArray, List.map_cons, List.map_nil]); first | done | rfl | (simp only [List.length_drop, List.length_take]; rfl)) ?_; (with_reducible refine (spec_l14Fits.calls k a0 a1 _ _ l2 true _ ?side1 ?side2 A4.out).mono ?_); (case side1 => repeat (first | exact (Kd.C_below HR2.out HB.out) | (with_reducible refine Kd.C_alloc ?_ _) | (with_reducible refine Kd.C_drewN ?_ _) | (with_reducible refine Kd.C_drew ?_))); (case side2 => exact HC2.out); rintro e w8 ⟨rfl, hb⟩; refine ⟨_, rfl, ?_⟩; have n0_ := Aside0.mk (Kd.R_below (by (with_reducible repeat (first | apply Kd.R_alloc | apply Kd.R_drewN | apply Kd.R_drew)); exact HO111.out) hb); have n1_ := Aside0.mk (below_step (by repeat (first | (with_reducible first | exact HB.out | apply below_alloc | apply pw_below_drewN | apply below_drew1) | exact HB.out)) hb); clear HO111; clear HB; have HO111 := n0_; have HB := n1_; clear n0_ n1_; (try clear hb); (try clear hb2); (try clear hk); (try clear hi)))
    go_loopg [7, 8, 9, 10] k (fun kq v7 v8 v9 v10 w' => ∃ (x7_1 : List Bool) (x8_1 : Int) (x9_1 : Int) (x10_1 : Int), v8 = .int .i64 x8_1 ∧ v9 = .int .i64 x9_1 ∧ v10 = .int .i64 x10_1 ∧ Aside0 (spec_PolicePulses.l0 kq a0 a1 l2 x7_1 x8_1 x9_1 x10_1 = some r) ∧ Aside0 (kq ≤ k) ∧ Aside0 (Kd.R Kd.bool 4 w' w.heap.size (fun _ => True) v7 x7_1) ∧ Aside0 (Below w.heap.size w w'))
    case atStart => exact ⟨(y109), (a1), (0), (0), (by first | rfl | (simp; done) | (simp [*]; done)), (by first | rfl | (simp; done) | (simp [*]; done)), (by first | rfl | (simp; done) | (simp [*]; done)), H', ⟨Nat.le_refl _⟩, ⟨by (with_reducible repeat (first | apply Kd.R_alloc | apply Kd.R_drewN | apply Kd.R_drew)); exact HO111.out⟩, ⟨by repeat (first | (with_reducible first | exact HB.out | apply below_alloc | apply pw_below_drewN | apply below_drew1) | exact HB.out)⟩⟩
    case round =>
      clear H'
      try clear c2
      try clear p2
      try clear c4
      try clear c5
      obtain ⟨x7_1, x8_1, x9_1, x10_1, rfl, rfl, rfl, HA, HK1, HO_7, HB⟩ := hrel
      cases gk with
      | zero => exact absurd HA.out (by simp [spec_PolicePulses.l0])
      | succ k1 =>
        have H := HA.out
        clear HA
        simp only [spec_PolicePulses.l0] at H
        by_cases c9 : x10_1 < (l2.length : Int)
        · rw [if_pos c9] at H
          have c9b0 : decide (x10_1 < (l2.length : Int)) = true := decide_eq_true c9
          clear c9
          by_cases c10 : 0 ≤ x10_1
          · rw [if_pos c10] at H
            have c10b0 : decide (0 ≤ x10_1) = true := decide_eq_true c10
            clear c10
            obtain ⟨ji11, hji11⟩ : ∃ j_ : Int, (mn a1 (wrap64 (x8_1 + (wrap64 (a0 * (wrap64 (((rd_T35 l2 x10_1).f0) - x9_1))))))) = j_ := ⟨_, rfl⟩
            replace H : (if (ji11) ≥ ((rd_T35 l2 x10_1).f1) then (if x7_1.length < 140737488355328 then (spec_PolicePulses.l0 k1 a0 a1 l2 (x7_1 ++ [decide ((ji11) ≥ ((rd_T35 l2 x10_1).f1))]) (wrap64 ((ji11) - ((rd_T35 l2 x10_1).f1))) ((rd_T35 l2 x10_1).f0) (wrap64 (x10_1 + 1))) else (none)) else (if x7_1.length < 140737488355328 then (spec_PolicePulses.l0 k1 a0 a1 l2 (x7_1 ++ [decide ((ji11) ≥ ((rd_T35 l2 x10_1).f1))]) ji11 ((rd_T35 l2 x10_1).f0) (wrap64 (x10_1 + 1))) else (none))) = some r := by first | (rw [hji11] at H; exact H) | (simp only [hji11] at H ⊢; exact H)
            have hji11_ : (if (wrap64 (x8_1 + (wrap64 (a0 * (wrap64 (((rd_T35 l2 x10_1).f0) - x9_1)))))) < a1 then (wrap64 (x8_1 + (wrap64 (a0 * (wrap64 (((rd_T35 l2 x10_1).f0) - x9_1)))))) else a1) = ji11 := hji11
            by_cases c12 : (ji11) ≥ ((rd_T35 l2 x10_1).f1)
            · rw [if_pos c12] at H
              have c12b0 : decide (((rd_T35 l2 x10_1).f1) ≤ (ji11)) = true := decide_eq_true c12
              clear c12
              by_cases c13 : x7_1.length < 140737488355328
              · rw [if_pos c13] at H
                have LMc13 := Aside0.mk c13
                clear c13
                obtain ⟨y117, hy117⟩ : ∃ y_ : List Bool, y_ = (x7_1 ++ [decide ((ji11) ≥ ((rd_T35 l2 x10_1).f1))]) := ⟨_, rfl⟩
                replace H : (spec_PolicePulses.l0 k1 a0 a1 l2 y117 (wrap64 ((ji11) - ((rd_T35 l2 x10_1).f1))) ((rd_T35 l2 x10_1).f0) (wrap64 (x10_1 + 1))) = some r := by first | (rw [hy117]; with_reducible exact H) | (have H2_ := (Option.bind_some _ _).symm.trans H; rw [hy117]; with_reducible exact H2_) | (have H2_ := (Option.bind_some _ _).symm.trans H; with_reducible exact H2_) | with_reducible exact H | (rw [hy117]; exact H) | exact H
                have Ny117 : Aside0 (y117 = x7_1 ++ [true]) := ⟨by rw [hy117, show decide ((ji11) ≥ ((rd_T35 l2 x10_1).f1)) = true from c12b0]⟩
                clear hy117
                have H' := Aside0.mk H
                clear H
                have p113 : 0 ≤ (x10_1 : Int) := of_decide_eq_true (by first | (with_reducible assumption) | assumption)
                have q113 : x10_1 < (l2.length : Int) := of_decide_eq_true (by first | (with_reducible assumption) | assumption)
                obtain ⟨ad113, e113, hx113_0, hx113_1⟩ := at_T35 HR2.out x10_1 p113 q113
                cases e113
                replace hx113_0 := (HB.out.cell (World.block_lt_of_cell? w _ hx113_0)).trans hx113_0
                replace hx113_1 := (HB.out.cell (World.block_lt_of_cell? w _ hx113_1)).trans hx113_1
                replace p113 := eq_true p113
                replace q113 := eq_true q113
                have p114 : 0 ≤ (x10_1 : Int) := of_decide_eq_true (by first | (with_reducible assumption) | assumption)
                have q114 : x10_1 < (l2.length : Int) := of_decide_eq_true (by first | (with_reducible assumption) | assumption)
                obtain ⟨ad114, e114, hx114_0, hx114_1⟩ := at_T35 HR2.out x10_1 p114 q114
                obtain rfl : ad113 = ad114 := (by injection e114)
                replace hx114_0 := (HB.out.cell (World.block_lt_of_cell? w _ hx114_0)).trans hx114_0
                replace hx114_1 := (HB.out.cell (World.block_lt_of_cell? w _ hx114_1)).trans hx114_1
                replace p114 := eq_true p114
                replace q114 := eq_true q114
                have p115 : 0 ≤ (x10_1 : Int) := of_decide_eq_true (by first | (with_reducible assumption) | assumption)
                have q115 : x10_1 < (l2.length : Int) := of_decide_eq_true (by first | (with_reducible assumption) | assumption)
                obtain ⟨ad115, e115, hx115_0, hx115_1⟩ := at_T35 HR2.out x10_1 p115 q115
                obtain rfl : ad113 = ad115 := (by injection e115)
                replace hx115_0 := (HB.out.cell (World.block_lt_of_cell? w _ hx115_0)).trans hx115_0
                replace hx115_1 := (HB.out.cell (World.block_lt_of_cell? w _ hx115_1)).trans hx115_1
                replace p115 := eq_true p115
                replace q115 := eq_true q115
                have p116 : 0 ≤ (x10_1 : Int) := of_decide_eq_true (by first | (with_reducible assumption) | assumption)
                have q116 : x10_1 < (l2.length : Int) := of_decide_eq_true (by first | (with_reducible assumption) | assumption)
                obtain ⟨ad116, e116, hx116_0, hx116_1⟩ := at_T35 HR2.out x10_1 p116 q116
                obtain rfl : ad113 = ad116 := (by injection e116)
                replace hx116_0 := (HB.out.cell (World.block_lt_of_cell? w _ hx116_0)).trans hx116_0
                replace hx116_1 := (HB.out.cell (World.block_lt_of_cell? w _ hx116_1)).trans hx116_1
                replace p116 := eq_true p116
                replace q116 := eq_true q116
                go_wp2_with (first | ((with_reducible refine gate_builtin (b := .append) (xs := #[.tmp 59, .tmp 61]) rfl ?_); at_builtin; refine Kd.R_append Kd.bool (w0 := w) w.heap.size rfl (.tmp 59) (.tmp 61) 32 4 (.bool false) 1 rfl Try.underlying32 info4 rfl (by decide) (by omega) u7 x7_1 true [.bool true] (fun _ => True) (fun _ => False) rfl rfl ?aP (fun _ hk => hk.elim) ?aF ?aO ?aB ?aS ?aL ?_; (case aP => exact rfl); (case aB => exact (by repeat (first | (with_reducible first | exact HB.out | apply below_alloc | apply pw_below_drewN | apply below_drew1) | exact HB.out))); (case aF => exact (fun _ _ => trivial)); (case aO => exact (by (with_reducible repeat (first | apply Kd.R_alloc | apply Kd.R_drewN | apply Kd.R_drew)); exact HO_7.out)); (case aS => exact (below_size (by repeat (first | (with_reducible first | exact HB.out | apply below_alloc | apply pw_below_drewN | apply below_drew1) | exact HB.out)))); (case aL => have := LMc13.out; omega); intro v118 w14 ho hb hg hat; rw [← Ny117.out] at ho; have n0_ := Aside0.mk (hb); have n1_ := Aside0.mk (ho); clear HB; clear HO_7; have HB := n0_; have HO119 := n1_; clear n0_ n1_; clear ho hb hg hat))
                go_roundg k1
                case measure => have := HK1.out; omega
                case rel => exact ⟨(y117), (wrap64 ((ji11) - ((rd_T35 l2 x10_1).f1))), ((rd_T35 l2 x10_1).f0), (wrap64 (x10_1 + 1)), (by first | rfl | (simp; done) | (simp only [← hji11] <;> (first | rfl | simp)) | (simp [*]; done)), (by first | rfl | (simp; done) | (simp [*]; done)), (by first | rfl | (simp; done) | (simp [*]; done)), H', ⟨by have := HK1.out; omega⟩, ⟨by (with_reducible repeat (first | apply Kd.R_alloc | apply Kd.R_drewN | apply Kd.R_drew)); exact HO119.out⟩, ⟨by repeat (first | (with_reducible first | exact HB.out | apply below_alloc | apply pw_below_drewN | apply below_drew1) | exact HB.out)⟩⟩
              · rw [if_neg c13] at H
                exact absurd H (by simp)
            · rw [if_neg c12] at H
              have c12b0 : decide (((rd_T35 l2 x10_1).f1) ≤ (ji11)) = false := decide_eq_false c12
              clear c12
              by_cases c15 : x7_1.length < 140737488355328
              · rw [if_pos c15] at H
                have LMc15 := Aside0.mk c15
                clear c15
                obtain ⟨y120, hy120⟩ : ∃ y_ : List Bool, y_ = (x7_1 ++ [decide ((ji11) ≥ ((rd_T35 l2 x10_1).f1))]) := ⟨_, rfl⟩
                replace H : (spec_PolicePulses.l0 k1 a0 a1 l2 y120 ji11 ((rd_T35 l2 x10_1).f0) (wrap64 (x10_1 + 1))) = some r := by first | (rw [hy120]; with_reducible exact H) | (have H2_ := (Option.bind_some _ _).symm.trans H; rw [hy120]; with_reducible exact H2_) | (have H2_ := (Option.bind_some _ _).symm.trans H; with_reducible exact H2_) | with_reducible exact H | (rw [hy120]; exact H) | exact H
                have Ny120 : Aside0 (y120 = x7_1 ++ [false]) := ⟨by rw [hy120, show decide ((ji11) ≥ ((rd_T35 l2 x10_1).f1)) = false from c12b0]⟩
                clear hy120
                have H' := Aside0.mk H
                clear H
                have p113 : 0 ≤ (x10_1 : Int) := of_decide_eq_true (by first | (with_reducible assumption) | assumption)
                have q113 : x10_1 < (l2.length : Int) := of_decide_eq_true (by first | (with_reducible assumption) | assumption)
                obtain ⟨ad113, e113, hx113_0, hx113_1⟩ := at_T35 HR2.out x10_1 p113 q113
                cases e113
                replace hx113_0 := (HB.out.cell (World.block_lt_of_cell? w _ hx113_0)).trans hx113_0
                replace hx113_1 := (HB.out.cell (World.block_lt_of_cell? w _ hx113_1)).trans hx113_1
                replace p113 := eq_true p113
                replace q113 := eq_true q113
                have p114 : 0 ≤ (x10_1 : Int) := of_decide_eq_true (by first | (with_reducible assumption) | assumption)
                have q114 : x10_1 < (l2.length : Int) := of_decide_eq_true (by first | (with_reducible assumption) | assumption)
                obtain ⟨ad114, e114, hx114_0, hx114_1⟩ := at_T35 HR2.out x10_1 p114 q114
                obtain rfl : ad113 = ad114 := (by injection e114)
                replace hx114_0 := (HB.out.cell (World.block_lt_of_cell? w _ hx114_0)).trans hx114_0
                replace hx114_1 := (HB.out.cell (World.block_lt_of_cell? w _ hx114_1)).trans hx114_1
                replace p114 := eq_true p114
                replace q114 := eq_true q114
                have p115 : 0 ≤ (x10_1 : Int) := of_decide_eq_true (by first | (with_reducible assumption) | assumption)
                have q115 : x10_1 < (l2.length : Int) := of_decide_eq_true (by first | (with_reducible assumption) | assumption)
                obtain ⟨ad115, e115, hx115_0, hx115_1⟩ := at_T35 HR2.out x10_1 p115 q115
                obtain rfl : ad113 = ad115 := (by injection e115)
                replace hx115_0 := (HB.out.cell (World.block_lt_of_cell? w _ hx115_0)).trans hx115_0
                replace hx115_1 := (HB.out.cell (World.block_lt_of_cell? w _ hx115_1)).trans hx115_1
                replace p115 := eq_true p115
                replace q115 := eq_true q115
                go_wp2_with (first | ((with_reducible refine gate_builtin (b := .append) (xs := #[.tmp 59, .tmp 61]) rfl ?_); at_builtin; refine Kd.R_append Kd.bool (w0 := w) w.heap.size rfl (.tmp 59) (.tmp 61) 32 4 (.bool false) 1 rfl Try.underlying32 info4 rfl (by decide) (by omega) u7 x7_1 false [.bool false] (fun _ => True) (fun _ => False) rfl rfl ?aP (fun _ hk => hk.elim) ?aF ?aO ?aB ?aS ?aL ?_; (case aP => exact rfl); (case aB => exact (by repeat (first | (with_reducible first | exact HB.out | apply below_alloc | apply pw_below_drewN | apply below_drew1) | exact HB.out))); (case aF => exact (fun _ _ => trivial)); (case aO => exact (by (with_reducible repeat (first | apply Kd.R_alloc | apply Kd.R_drewN | apply Kd.R_drew)); exact HO_7.out)); (case aS => exact (below_size (by repeat (first | (with_reducible first | exact HB.out | apply below_alloc | apply pw_below_drewN | apply below_drew1) | exact HB.out)))); (case aL => have := LMc15.out; omega); intro v121 w16 ho hb hg hat; rw [← Ny120.out] at ho; have n0_ := Aside0.mk (hb); have n1_ := Aside0.mk (ho); clear HB; clear HO_7; have HB := n0_; have HO122 := n1_; clear n0_ n1_; clear ho hb hg hat))
                go_roundg k1
                case measure => have := HK1.out; omega
                case rel => exact ⟨(y120), (ji11), ((rd_T35 l2 x10_1).f0), (wrap64 (x10_1 + 1)), (by first | rfl | (simp; done) | (simp only [← hji11] <;> (first | rfl | simp)) | (simp [*]; done)), (by first | rfl | (simp; done) | (simp [*]; done)), (by first | rfl | (simp; done) | (simp [*]; done)), H', ⟨by have := HK1.out; omega⟩, ⟨by (with_reducible repeat (first | apply Kd.R_alloc | apply Kd.R_drewN | apply Kd.R_drew)); exact HO122.out⟩, ⟨by repeat (first | (with_reducible first | exact HB.out | apply below_alloc | apply pw_below_drewN | apply below_drew1) | exact HB.out)⟩⟩
              · rw [if_neg c15] at H
                exact absurd H (by simp)
          · rw [if_neg c10] at H
            exact absurd H (by simp)
        · rw [if_neg c9] at H
          have c9b0 : decide (x10_1 < (l2.length : Int)) = false := decide_eq_false c9
          clear c9
          obtain rfl := Option.some.inj H
          go_wp2
          go_ret
          exact ⟨_, by first | rfl | (simp [errW_none, errW_some] <;> rfl) | (simp [*, errW_none, errW_some] <;> rfl), by (with_reducible repeat (first | apply Kd.R_alloc | apply Kd.R_drewN | apply Kd.R_drew)); exact HO_7.out, by repeat (first | (with_reducible first | exact HB.out | apply below_alloc | apply pw_below_drewN | apply below_drew1) | exact HB.out)⟩
  · replace c5 := Bool.eq_false_iff.mpr c5
    subst c5
    have H1 : (some y109) = some r := by rw [if_neg (show ¬ (false = true) by decide)] at H; exact H
    clear H
    have H := H1
    clear H1
    obtain rfl := Option.some.inj H
    go_enter Try.func21, Try.ntmps21
    go_wp2_with (first | ((with_reducible refine gate_dst (N := 12) rfl ?_); refine Kd.R_lit Kd.bool _ 4 ?hg (N := 12) ?hd (xs := ([] : List Bool)) (inner := []) (ok := fun _ => True) (okp := fun _ => True) ?hr ?hp (fun _ hk => hk) trivial (Below.refl _ _) (Nat.le_refl _) (by simp) ?_; (case hd => rfl); (case hg => rfl); (case hr => first | (go_simp; done) | (go_simp; rfl)); (case hp => exact (Reps.none _ _)); intro v110 w17 ho18 hb hg_ hnew_; clear hg_ hnew_; (first | rw [← Ny109.out] at ho18 | (simp only [Int.reduceToNat] at ho18; rw [← Ny109.out] at ho18)); have n0_ := Aside0.mk (Kd.R_lower ho18 (below_size (by repeat (first | (with_reducible first | exact HB.out | apply below_alloc | apply pw_below_drewN | apply below_drew1) | exact HB.out)))); have n1_ := Aside0.mk (below_step (by repeat (first | (with_reducible first | exact HB.out | apply below_alloc | apply pw_below_drewN | apply below_drew1) | exact HB.out)) hb); clear HB; have HO111 := n0_; have HB := n1_; clear n0_ n1_; clear hb ho18) | ((with_reducible refine gate_callee (f := 40) rfl ?_); refine goesL_ (some 16) rfl rfl Try.func40 (by kernel_rfl) rfl #[.int .i64 a0, .int .i64 a1, .slice A2 l2.length c2] rfl (by (try simp only [List.map_toArray, List.map_cons, List.map_nil]); first | done | rfl | (simp only [List.length_drop, List.length_take]; rfl)) ?_; (with_reducible refine (spec_l14Fits.calls k a0 a1 _ _ l2 false _ ?side1 ?side2 A4.out).mono ?_); (case side1 => repeat (first | exact (Kd.C_below HR2.out HB.out) | (with_reducible refine Kd.C_alloc ?_ _) | (with_reducible refine Kd.C_drewN ?_ _) | (with_reducible refine Kd.C_drew ?_))); (case side2 => exact HC2.out); rintro e w19 ⟨rfl, hb⟩; refine ⟨_, rfl, ?_⟩; have n0_ := Aside0.mk (Kd.R_below (by (with_reducible repeat (first | apply Kd.R_alloc | apply Kd.R_drewN | apply Kd.R_drew)); exact HO111.out) hb); have n1_ := Aside0.mk (below_step (by repeat (first | (with_reducible first | exact HB.out | apply below_alloc | apply pw_below_drewN | apply below_drew1) | exact HB.out)) hb); clear HO111; clear HB; have HO111 := n0_; have HB := n1_; clear n0_ n1_; (try clear hb); (try clear hb2); (try clear hk); (try clear hi)))
    go_ret
    exact ⟨_, by first | rfl | (simp [errW_none, errW_some] <;> rfl) | (simp [*, errW_none, errW_some] <;> rfl), by (with_reducible repeat (first | apply Kd.R_alloc | apply Kd.R_drewN | apply Kd.R_drew)); exact HO111.out, by repeat (first | (with_reducible first | exact HB.out | apply below_alloc | apply pw_below_drewN | apply below_drew1) | exact HB.out)⟩

/-! ### spec_DrawPolicePulses: function 19 -/
def spec_DrawPolicePulses.f (k : Nat) (l0 : List Int) : Option (Int × Int × (List (S35))) := (spec_l21Open.f l0).bind fun bt235 => ((spec_l14Draw.f k bt235.1 bt235.2).bind fun bt238 => (some (bt238.1, bt238.2.1, bt238.2.2.1)))
theorem spec_DrawPolicePulses.mono : ∀ a0 k, LeO (spec_DrawPolicePulses.f k a0) (spec_DrawPolicePulses.f (k + 1) a0) := by
  intro a0 k
  unfold spec_DrawPolicePulses.f
  repeat' first
      | (with_reducible exact spec_l14Draw.mono _ _ _)
      | (with_reducible exact LeO.refl _)
      | (with_reducible exact LeO.none _)
      | (with_reducible refine LeO.ite ?_ ?_)
      | (with_reducible refine LeO.bind ?_ (fun _ => ?_))
      | exact spec_l14Draw.mono _ _ _
      | exact LeO.none _
      | refine LeO.ite ?_ ?_
      | refine LeO.bind ?_ (fun _ => ?_)
set_option maxHeartbeats 8000000 in
set_option maxRecDepth 100000 in
theorem spec_DrawPolicePulses.calls (k : Nat) (A0 : Option Addr) (c0 : Nat) (l0 : List Int) (r1 : Int) (r2 : Int) (r3 : List (S35)) (w : World) (hr0 : Kd.C (Kd.int .u8) w A0 l0.length l0) (hc0 : l0.length ≤ c0) (h : spec_DrawPolicePulses.f k l0 = some (r1, r2, r3)) :
    Calls Try.prog 19 #[.slice A0 l0.length c0] w fun e w' => ∃ v2_ : Value, e = .returned (.tuple #[.int .i64 r1, .int .i64 r2, v2_]) ∧ Kd.R k35 35 w' w.heap.size (fun _ => True) v2_ r3 ∧ Below w.heap.size w w' := by
  have HR0 := Aside0.mk hr0
  have HC0 := Aside0.mk hc0
  clear hr0 hc0
  have HB := Aside0.mk (Below.refl w.heap.size w)
  have H : ((spec_l21Open.f l0).bind fun bt235 => ((spec_l14Draw.f k bt235.1 bt235.2).bind fun bt238 => (some (bt238.1, bt238.2.1, bt238.2.2.1)))) = some (r1, r2, r3) := h
  clear h
  replace H := Option.bind_eq_some_iff.mp H
  obtain ⟨⟨t235, t236⟩, A20, H⟩ := H
  replace H : ((spec_l14Draw.f k t235 t236).bind fun bt238 => (some (bt238.1, bt238.2.1, bt238.2.2.1))) = some (r1, r2, r3) := H
  have A2 := Aside0.mk A20
  clear A20
  replace H := Option.bind_eq_some_iff.mp H
  obtain ⟨⟨t238, t239, t240, t243⟩, A30, H⟩ := H
  replace H : (some (t238, t239, t240)) = some (r1, r2, r3) := H
  have A3 := Aside0.mk A30
  clear A30
  simp only [Option.some.injEq, Prod.mk.injEq] at H
  obtain ⟨rfl, rfl, rfl⟩ := H
  go_enter Try.func19, Try.ntmps19
  go_wp2_with (first | ((with_reducible refine gate_callee (f := 49) rfl ?_); refine goesL_ (some 6) rfl rfl Try.func49 (by kernel_rfl) rfl #[.slice A0 l0.length c0] rfl (by (try simp only [List.map_toArray, List.map_cons, List.map_nil]); first | done | rfl | (simp only [List.length_drop, List.length_take]; rfl)) ?_; (with_reducible refine (spec_l21Open.calls _ _ l0 t235 t236 w _ ?side1 ?side2 ?side3 A2.out).mono ?_); (case side1 => repeat (first | (with_reducible first | exact HB.out | apply below_alloc | apply pw_below_drewN | apply below_drew1) | exact HB.out)); (case side2 => exact HR0.out); (case side3 => exact HC0.out); rintro e w4 ⟨g237, rfl, hi, hb, hb2⟩; refine ⟨_, rfl, ?_⟩; have n0_ := Aside0.mk (hb); have n1_ := Aside0.mk (hi); clear HB; have HB := n0_; have HI237 := n1_; clear n0_ n1_; (try clear hb); (try clear hb2); (try clear hk); (try clear hi)) | ((with_reducible refine gate_callee (f := 48) rfl ?_); refine goesL_ (some 7) rfl rfl Try.func48 (by kernel_rfl) rfl #[.pointer (some ⟨g237, 0, none⟩)] rfl (by (try simp only [List.map_toArray, List.map_cons, List.map_nil]); first | done | rfl | (simp only [List.length_drop, List.length_take]; rfl)) ?_; (with_reducible refine (spec_l14Draw.calls k g237 t235 t236 t238 t239 t240 t243 w _ ?side1 ?side2 A3.out).mono ?_); (case side1 => repeat (first | (with_reducible first | exact HI237.out | apply IsS72.alloc | apply IsS72.drewN | apply IsS72.drew | apply IsS72.set_1) | exact HI237.out)); (case side2 => repeat (first | (with_reducible first | exact HB.out | apply below_alloc | apply pw_below_drewN | apply below_drew1 | refine below_set ?_ (IsS72.ge HI237.out)) | exact HB.out)); rintro e w5 ⟨v241, rfl, ho0, hi, hb, hk⟩; refine ⟨_, rfl, ?_⟩; have n0_ := Aside0.mk (Kd.R_lower ho0 (below_size (by repeat (first | (with_reducible first | exact HB.out | apply below_alloc | apply pw_below_drewN | apply below_drew1 | refine below_set ?_ (IsS72.ge HI237.out)) | exact HB.out)))); have n1_ := Aside0.mk (hb); have n2_ := Aside0.mk (hi); clear HB; clear HI237; have HO242 := n0_; have HB := n1_; have HI237 := n2_; clear n0_ n1_ n2_; (try clear hb); (try clear hb2); (try clear hk); (try clear hi); (try clear ho0)))
  go_ret3
  exact ⟨_, by first | rfl | (simp [errW_none, errW_some] <;> rfl) | (simp [*, errW_none, errW_some] <;> rfl), by (with_reducible repeat (first | apply Kd.R_alloc | apply Kd.R_drewN | apply Kd.R_drew)); exact HO242.out, by repeat (first | (with_reducible first | exact HB.out | apply below_alloc | apply pw_below_drewN | apply below_drew1 | refine below_set ?_ (IsS72.ge HI237.out)) | exact HB.out)⟩

/-! ### spec_Conforms: function 23 -/
def spec_Conforms.l0 : Nat → Int → Int → List (S35) → List Bool → Int → Option (Bool)
  | 0, _, _, _, _, _ => none
  | k + 1, x0, x1, x2, x7, x8 => if x8 < (x7.length : Int) then (if 0 ≤ x8 then (if rdOf false x7 x8 = true then (spec_Conforms.l0 k x0 x1 x2 x7 (wrap64 (x8 + 1))) else (some false)) else (none)) else ((spec_l14Fits.f k x0 x1 x2).bind fun t281 => (some t281))
def spec_Conforms.f (k : Nat) (a0 : Int) (a1 : Int) (l2 : List (S35)) : Option (Bool) := (spec_PolicePulses.f k a0 a1 l2).bind fun t277 => (spec_Conforms.l0 k a0 a1 l2 t277 0)
theorem spec_Conforms.mono_l : ∀ k, (∀ y0 y1 y2 y3 y4, LeO (spec_Conforms.l0 k y0 y1 y2 y3 y4) (spec_Conforms.l0 (k + 1) y0 y1 y2 y3 y4))
  | 0 => fun _ _ _ _ _ r h => by simp [spec_Conforms.l0] at h
  | k + 1 => by
    have ih0 := spec_Conforms.mono_l k
    · intro y0 y1 y2 y3 y4
      unfold spec_Conforms.l0
      repeat' first
      | (with_reducible exact ih0 _ _ _ _ _)
      | (with_reducible exact spec_PolicePulses.mono _ _ _ _)
      | (with_reducible exact spec_l14Fits.mono _ _ _ _)
      | (with_reducible exact LeO.refl _)
      | (with_reducible exact LeO.none _)
      | (with_reducible refine LeO.ite ?_ ?_)
      | (with_reducible refine LeO.bind ?_ (fun _ => ?_))
      | exact ih0 _ _ _ _ _
      | exact spec_PolicePulses.mono _ _ _ _
      | exact spec_l14Fits.mono _ _ _ _
      | exact LeO.none _
      | refine LeO.ite ?_ ?_
      | refine LeO.bind ?_ (fun _ => ?_)
theorem spec_Conforms.mono : ∀ a0 a1 a2 k, LeO (spec_Conforms.f k a0 a1 a2) (spec_Conforms.f (k + 1) a0 a1 a2) := by
  intro a0 a1 a2 k
  have ih0 := spec_Conforms.mono_l k
  unfold spec_Conforms.f
  repeat' first
      | (with_reducible exact ih0 _ _ _ _ _)
      | (with_reducible exact spec_PolicePulses.mono _ _ _ _)
      | (with_reducible exact spec_l14Fits.mono _ _ _ _)
      | (with_reducible exact LeO.refl _)
      | (with_reducible exact LeO.none _)
      | (with_reducible refine LeO.ite ?_ ?_)
      | (with_reducible refine LeO.bind ?_ (fun _ => ?_))
      | exact ih0 _ _ _ _ _
      | exact spec_PolicePulses.mono _ _ _ _
      | exact spec_l14Fits.mono _ _ _ _
      | exact LeO.none _
      | refine LeO.ite ?_ ?_
      | refine LeO.bind ?_ (fun _ => ?_)
set_option maxHeartbeats 8000000 in
set_option maxRecDepth 100000 in
theorem spec_Conforms.calls (k : Nat) (a0 : Int) (a1 : Int) (A2 : Option Addr) (c2 : Nat) (l2 : List (S35)) (r : Bool) (w : World) (hr2 : Kd.C k35 w A2 l2.length l2) (hc2 : l2.length ≤ c2) (h : spec_Conforms.f k a0 a1 l2 = some r) :
    Calls Try.prog 23 #[.int .i64 a0, .int .i64 a1, .slice A2 l2.length c2] w fun e w' => e = .returned (.bool r) ∧ Below w.heap.size w w' := by
  have HR2 := Aside0.mk hr2
  have HC2 := Aside0.mk hc2
  clear hr2 hc2
  have HB := Aside0.mk (Below.refl w.heap.size w)
  have H : ((spec_PolicePulses.f k a0 a1 l2).bind fun t277 => (spec_Conforms.l0 k a0 a1 l2 t277 0)) = some r := h
  clear h
  replace H := Option.bind_eq_some_iff.mp H
  obtain ⟨t277, A40, H⟩ := H
  replace H : (spec_Conforms.l0 k a0 a1 l2 t277 0) = some r := H
  have A4 := Aside0.mk A40
  clear A40
  have H' := Aside0.mk H
  clear H
  go_enter Try.func23, Try.ntmps23
  go_wp2_with (first | ((with_reducible refine gate_callee (f := 21) rfl ?_); refine goesL_ (some 12) rfl rfl Try.func21 (by kernel_rfl) rfl #[.int .i64 a0, .int .i64 a1, .slice A2 l2.length c2] rfl (by (try simp only [List.map_toArray, List.map_cons, List.map_nil]); first | done | rfl | (simp only [List.length_drop, List.length_take]; rfl)) ?_; (with_reducible refine (spec_PolicePulses.calls k a0 a1 _ _ l2 t277 _ ?side1 ?side2 A4.out).mono ?_); (case side1 => repeat (first | exact HR2.out | (with_reducible refine Kd.C_alloc ?_ _) | (with_reducible refine Kd.C_drewN ?_ _) | (with_reducible refine Kd.C_drew ?_))); (case side2 => exact HC2.out); rintro e w5 ⟨v278, rfl, ho0, hb⟩; refine ⟨_, rfl, ?_⟩; have n0_ := Aside0.mk (Kd.R_lower ho0 (below_size (by repeat (first | (with_reducible first | exact HB.out | apply below_alloc | apply pw_below_drewN | apply below_drew1) | exact HB.out)))); have n1_ := Aside0.mk (below_step (by repeat (first | (with_reducible first | exact HB.out | apply below_alloc | apply pw_below_drewN | apply below_drew1) | exact HB.out)) hb); clear HB; have HO279 := n0_; have HB := n1_; clear n0_ n1_; (try clear hb); (try clear hb2); (try clear hk); (try clear hi); (try clear ho0)))
  go_loopg [8] k (fun kq v8 w' => ∃ (x8_1 : Int), v8 = .int .i64 x8_1 ∧ Aside0 (spec_Conforms.l0 kq a0 a1 l2 t277 x8_1 = some r) ∧ Aside0 (kq ≤ k) ∧ Aside0 (Kd.R Kd.bool 4 w' w.heap.size (fun _ => True) v278 t277) ∧ Aside0 (Below w.heap.size w w'))
  case atStart => exact ⟨(0), (by first | rfl | (simp; done) | (simp [*]; done)), H', ⟨Nat.le_refl _⟩, ⟨by (with_reducible repeat (first | apply Kd.R_alloc | apply Kd.R_drewN | apply Kd.R_drew)); exact HO279.out⟩, ⟨by repeat (first | (with_reducible first | exact HB.out | apply below_alloc | apply pw_below_drewN | apply below_drew1) | exact HB.out)⟩⟩
  case round =>
    clear H'
    try clear c2
    try clear p2
    obtain ⟨x8_1, rfl, HA, HK1, HO_7, HB⟩ := hrel
    cases gk with
    | zero => exact absurd HA.out (by simp [spec_Conforms.l0])
    | succ k1 =>
      have H := HA.out
      clear HA
      simp only [spec_Conforms.l0] at H
      by_cases c6 : x8_1 < (t277.length : Int)
      · rw [if_pos c6] at H
        have c6b0 : decide (x8_1 < (t277.length : Int)) = true := decide_eq_true c6
        clear c6
        by_cases c7 : 0 ≤ x8_1
        · rw [if_pos c7] at H
          have c7b0 : decide (0 ≤ x8_1) = true := decide_eq_true c7
          clear c7
          obtain ⟨bq8, hbq8⟩ : ∃ b_ : Bool, b_ = (rdOf false t277 x8_1) := ⟨_, rfl⟩
          replace H : (if bq8 = true then (spec_Conforms.l0 k1 a0 a1 l2 t277 (wrap64 (x8_1 + 1))) else (some false)) = some r := by rw [← hbq8] at H; exact H
          have Nbq8 := Aside0.mk hbq8
          clear hbq8
          by_cases c9 : bq8 = true
          · subst c9
            have H1 : (spec_Conforms.l0 k1 a0 a1 l2 t277 (wrap64 (x8_1 + 1))) = some r := by rw [if_pos rfl] at H; exact H
            clear H
            have H := H1
            clear H1
            have H' := Aside0.mk H
            clear H
            obtain ⟨Ao10, co10, eo10⟩ := Kd.R_slice HO_7.out
            subst eo10
            have p280 : 0 ≤ (x8_1 : Int) := of_decide_eq_true (by first | (with_reducible assumption) | assumption)
            have q280 : x8_1 < (t277.length : Int) := of_decide_eq_true (by first | (with_reducible assumption) | assumption)
            obtain ⟨ad280, e280, hx280_0⟩ := Kd.at_bool (Kd.R_reads' HO_7.out).2.2 x8_1 p280 q280
            (try rw [← Nbq8.out] at hx280_0)
            cases e280
            replace p280 := eq_true p280
            replace q280 := eq_true q280
            go_wp2
            go_roundg k1
            case measure => have := HK1.out; omega
            case rel => exact ⟨(wrap64 (x8_1 + 1)), (by first | rfl | (simp; done) | (simp [*]; done)), H', ⟨by have := HK1.out; omega⟩, ⟨by (with_reducible repeat (first | apply Kd.R_alloc | apply Kd.R_drewN | apply Kd.R_drew)); exact HO_7.out⟩, ⟨by repeat (first | (with_reducible first | exact HB.out | apply below_alloc | apply pw_below_drewN | apply below_drew1) | exact HB.out)⟩⟩
          · replace c9 := Bool.eq_false_iff.mpr c9
            subst c9
            have H1 : (some false) = some r := by rw [if_neg (show ¬ (false = true) by decide)] at H; exact H
            clear H
            have H := H1
            clear H1
            obtain rfl := Option.some.inj H
            obtain ⟨Ao11, co11, eo11⟩ := Kd.R_slice HO_7.out
            subst eo11
            have p280 : 0 ≤ (x8_1 : Int) := of_decide_eq_true (by first | (with_reducible assumption) | assumption)
            have q280 : x8_1 < (t277.length : Int) := of_decide_eq_true (by first | (with_reducible assumption) | assumption)
            obtain ⟨ad280, e280, hx280_0⟩ := Kd.at_bool (Kd.R_reads' HO_7.out).2.2 x8_1 p280 q280
            (try rw [← Nbq8.out] at hx280_0)
            cases e280
            replace p280 := eq_true p280
            replace q280 := eq_true q280
            go_wp2
            go_ret
            exact ⟨by first | rfl | (simp [errW_none, errW_some] <;> rfl) | (simp [*, errW_none, errW_some] <;> rfl), by repeat (first | (with_reducible first | exact HB.out | apply below_alloc | apply pw_below_drewN | apply below_drew1) | exact HB.out)⟩
        · rw [if_neg c7] at H
          exact absurd H (by simp)
      · rw [if_neg c6] at H
        have c6b0 : decide (x8_1 < (t277.length : Int)) = false := decide_eq_false c6
        clear c6
        replace H := Option.bind_eq_some_iff.mp H
        obtain ⟨t281, A120, H⟩ := H
        replace H : (some t281) = some r := H
        have A12 := Aside0.mk A120
        clear A120
        obtain rfl := Option.some.inj H
        obtain ⟨Ao13, co13, eo13⟩ := Kd.R_slice HO_7.out
        subst eo13
        go_wp2_with (first | ((with_reducible refine gate_callee (f := 40) rfl ?_); refine goesL_ (some 27) rfl rfl Try.func40 (by kernel_rfl) rfl #[.int .i64 a0, .int .i64 a1, .slice A2 l2.length c2] rfl (by (try simp only [List.map_toArray, List.map_cons, List.map_nil]); first | done | rfl | (simp only [List.length_drop, List.length_take]; rfl)) ?_; (with_reducible refine (spec_l14Fits.calls k1 a0 a1 _ _ l2 t281 _ ?side1 ?side2 A12.out).mono ?_); (case side1 => repeat (first | exact (Kd.C_below HR2.out HB.out) | (with_reducible refine Kd.C_alloc ?_ _) | (with_reducible refine Kd.C_drewN ?_ _) | (with_reducible refine Kd.C_drew ?_))); (case side2 => exact HC2.out); rintro e w14 ⟨rfl, hb⟩; refine ⟨_, rfl, ?_⟩; have n0_ := Aside0.mk (Kd.R_below (by (with_reducible repeat (first | apply Kd.R_alloc | apply Kd.R_drewN | apply Kd.R_drew)); exact HO_7.out) hb); have n1_ := Aside0.mk (below_step (by repeat (first | (with_reducible first | exact HB.out | apply below_alloc | apply pw_below_drewN | apply below_drew1) | exact HB.out)) hb); clear HO_7; clear HB; have HO_7 := n0_; have HB := n1_; clear n0_ n1_; (try clear hb); (try clear hb2); (try clear hk); (try clear hi)))
        go_ret
        exact ⟨by first | rfl | (simp [errW_none, errW_some] <;> rfl) | (simp [*, errW_none, errW_some] <;> rfl), by repeat (first | (with_reducible first | exact HB.out | apply below_alloc | apply pw_below_drewN | apply below_drew1) | exact HB.out)⟩

/-! ### spec_LeastBurst: function 28 -/
def spec_LeastBurst.l0 : Nat → Int → List (S35) → Int → Option (Int)
  | 0, _, _, _ => none
  | k + 1, x0, x1, x5 => if x5 ≤ 100 then ((spec_Conforms.f k x0 x5 x1).bind fun t333 => (if t333 = true then (some x5) else (spec_LeastBurst.l0 k x0 x1 (wrap64 (x5 + 1))))) else (some (-1))
def spec_LeastBurst.f (k : Nat) (a0 : Int) (l1 : List (S35)) : Option (Int) := spec_LeastBurst.l0 k a0 l1 1
theorem spec_LeastBurst.mono_l : ∀ k, (∀ y0 y1 y2, LeO (spec_LeastBurst.l0 k y0 y1 y2) (spec_LeastBurst.l0 (k + 1) y0 y1 y2))
  | 0 => fun _ _ _ r h => by simp [spec_LeastBurst.l0] at h
  | k + 1 => by
    have ih0 := spec_LeastBurst.mono_l k
    · intro y0 y1 y2
      unfold spec_LeastBurst.l0
      repeat' first
      | (with_reducible exact ih0 _ _ _)
      | (with_reducible exact spec_Conforms.mono _ _ _ _)
      | (with_reducible exact LeO.refl _)
      | (with_reducible exact LeO.none _)
      | (with_reducible refine LeO.ite ?_ ?_)
      | (with_reducible refine LeO.bind ?_ (fun _ => ?_))
      | exact ih0 _ _ _
      | exact spec_Conforms.mono _ _ _ _
      | exact LeO.none _
      | refine LeO.ite ?_ ?_
      | refine LeO.bind ?_ (fun _ => ?_)
theorem spec_LeastBurst.mono : ∀ a0 a1 k, LeO (spec_LeastBurst.f k a0 a1) (spec_LeastBurst.f (k + 1) a0 a1) := by
  intro a0 a1 k
  have ih0 := spec_LeastBurst.mono_l k
  unfold spec_LeastBurst.f
  repeat' first
      | (with_reducible exact ih0 _ _ _)
      | (with_reducible exact spec_Conforms.mono _ _ _ _)
      | (with_reducible exact LeO.refl _)
      | (with_reducible exact LeO.none _)
      | (with_reducible refine LeO.ite ?_ ?_)
      | (with_reducible refine LeO.bind ?_ (fun _ => ?_))
      | exact ih0 _ _ _
      | exact spec_Conforms.mono _ _ _ _
      | exact LeO.none _
      | refine LeO.ite ?_ ?_
      | refine LeO.bind ?_ (fun _ => ?_)
set_option maxHeartbeats 8000000 in
set_option maxRecDepth 100000 in
theorem spec_LeastBurst.calls (k : Nat) (a0 : Int) (A1 : Option Addr) (c1 : Nat) (l1 : List (S35)) (r : Int) (w : World) (hr1 : Kd.C k35 w A1 l1.length l1) (hc1 : l1.length ≤ c1) (h : spec_LeastBurst.f k a0 l1 = some r) :
    Calls Try.prog 28 #[.int .i64 a0, .slice A1 l1.length c1] w fun e w' => e = .returned (.int .i64 r) ∧ Below w.heap.size w w' := by
  have HR1 := Aside0.mk hr1
  have HC1 := Aside0.mk hc1
  clear hr1 hc1
  have HB := Aside0.mk (Below.refl w.heap.size w)
  have H : (spec_LeastBurst.l0 k a0 l1 1) = some r := h
  clear h
  have H' := Aside0.mk H
  clear H
  go_enter Try.func28, Try.ntmps28
  go_wp2
  go_loopg [5] k (fun kq v5 w' => ∃ (x5_1 : Int), v5 = .int .i64 x5_1 ∧ Aside0 (spec_LeastBurst.l0 kq a0 l1 x5_1 = some r) ∧ Aside0 (kq ≤ k) ∧ Aside0 (Below w.heap.size w w'))
  case atStart => exact ⟨(1), (by first | rfl | (simp; done) | (simp [*]; done)), H', ⟨Nat.le_refl _⟩, ⟨by repeat (first | (with_reducible first | exact HB.out | apply below_alloc | apply pw_below_drewN | apply below_drew1) | exact HB.out)⟩⟩
  case round =>
    clear H'
    try clear c1
    try clear c2
    try clear p2
    obtain ⟨x5_1, rfl, HA, HK1, HB⟩ := hrel
    cases gk with
    | zero => exact absurd HA.out (by simp [spec_LeastBurst.l0])
    | succ k1 =>
      have H := HA.out
      clear HA
      simp only [spec_LeastBurst.l0] at H
      by_cases c3 : x5_1 ≤ 100
      · rw [if_pos c3] at H
        have c3b0 : decide (x5_1 ≤ 100) = true := decide_eq_true c3
        clear c3
        replace H := Option.bind_eq_some_iff.mp H
        obtain ⟨t333, A40, H⟩ := H
        replace H : (if t333 = true then (some x5_1) else (spec_LeastBurst.l0 k1 a0 l1 (wrap64 (x5_1 + 1)))) = some r := H
        have A4 := Aside0.mk A40
        clear A40
        by_cases c5 : t333 = true
        · subst c5
          have H1 : (some x5_1) = some r := by rw [if_pos rfl] at H; exact H
          clear H
          have H := H1
          clear H1
          obtain rfl := Option.some.inj H
          go_wp2_with (first | ((with_reducible refine gate_callee (f := 23) rfl ?_); refine goesL_ (some 13) rfl rfl Try.func23 (by kernel_rfl) rfl #[.int .i64 a0, .int .i64 x5_1, .slice A1 l1.length c1] rfl (by (try simp only [List.map_toArray, List.map_cons, List.map_nil]); first | done | rfl | (simp only [List.length_drop, List.length_take]; rfl)) ?_; (with_reducible refine (spec_Conforms.calls k1 a0 x5_1 _ _ l1 true _ ?side1 ?side2 A4.out).mono ?_); (case side1 => repeat (first | exact (Kd.C_below HR1.out HB.out) | (with_reducible refine Kd.C_alloc ?_ _) | (with_reducible refine Kd.C_drewN ?_ _) | (with_reducible refine Kd.C_drew ?_))); (case side2 => exact HC1.out); rintro e w6 ⟨rfl, hb⟩; refine ⟨_, rfl, ?_⟩; have n0_ := Aside0.mk (below_step (by repeat (first | (with_reducible first | exact HB.out | apply below_alloc | apply pw_below_drewN | apply below_drew1) | exact HB.out)) hb); clear HB; have HB := n0_; clear n0_; (try clear hb); (try clear hb2); (try clear hk); (try clear hi)))
          go_ret
          exact ⟨by first | rfl | (simp [errW_none, errW_some] <;> rfl) | (simp [*, errW_none, errW_some] <;> rfl), by repeat (first | (with_reducible first | exact HB.out | apply below_alloc | apply pw_below_drewN | apply below_drew1) | exact HB.out)⟩
        · replace c5 := Bool.eq_false_iff.mpr c5
          subst c5
          have H1 : (spec_LeastBurst.l0 k1 a0 l1 (wrap64 (x5_1 + 1))) = some r := by rw [if_neg (show ¬ (false = true) by decide)] at H; exact H
          clear H
          have H := H1
          clear H1
          have H' := Aside0.mk H
          clear H
          go_wp2_with (first | ((with_reducible refine gate_callee (f := 23) rfl ?_); refine goesL_ (some 13) rfl rfl Try.func23 (by kernel_rfl) rfl #[.int .i64 a0, .int .i64 x5_1, .slice A1 l1.length c1] rfl (by (try simp only [List.map_toArray, List.map_cons, List.map_nil]); first | done | rfl | (simp only [List.length_drop, List.length_take]; rfl)) ?_; (with_reducible refine (spec_Conforms.calls k1 a0 x5_1 _ _ l1 false _ ?side1 ?side2 A4.out).mono ?_); (case side1 => repeat (first | exact (Kd.C_below HR1.out HB.out) | (with_reducible refine Kd.C_alloc ?_ _) | (with_reducible refine Kd.C_drewN ?_ _) | (with_reducible refine Kd.C_drew ?_))); (case side2 => exact HC1.out); rintro e w7 ⟨rfl, hb⟩; refine ⟨_, rfl, ?_⟩; have n0_ := Aside0.mk (below_step (by repeat (first | (with_reducible first | exact HB.out | apply below_alloc | apply pw_below_drewN | apply below_drew1) | exact HB.out)) hb); clear HB; have HB := n0_; clear n0_; (try clear hb); (try clear hb2); (try clear hk); (try clear hi)))
          go_roundg k1
          case measure => have := HK1.out; omega
          case rel => exact ⟨(wrap64 (x5_1 + 1)), (by first | rfl | (simp; done) | (simp [*]; done)), H', ⟨by have := HK1.out; omega⟩, ⟨by repeat (first | (with_reducible first | exact HB.out | apply below_alloc | apply pw_below_drewN | apply below_drew1) | exact HB.out)⟩⟩
      · rw [if_neg c3] at H
        have c3b0 : decide (x5_1 ≤ 100) = false := decide_eq_false c3
        clear c3
        obtain rfl := Option.some.inj H
        go_wp2
        go_ret
        exact ⟨by first | rfl | (simp [errW_none, errW_some] <;> rfl) | (simp [*, errW_none, errW_some] <;> rfl), by repeat (first | (with_reducible first | exact HB.out | apply below_alloc | apply pw_below_drewN | apply below_drew1) | exact HB.out)⟩

/-! ### impl_LeastBurst: function 29 -/
def impl_LeastBurst.l0 : Nat → Int → List (S35) → Int → Option (Int)
  | 0, _, _, _ => none
  | k + 1, x0, x1, x5 => if x5 ≤ 100 then ((impl_Conforms.f x0 x5 x1).bind fun t334 => (if t334 = true then (some x5) else (impl_LeastBurst.l0 k x0 x1 (wrap64 (x5 + 1))))) else (some (-1))
def impl_LeastBurst.f (k : Nat) (a0 : Int) (l1 : List (S35)) : Option (Int) := impl_LeastBurst.l0 k a0 l1 1
theorem impl_LeastBurst.mono_l : ∀ k, (∀ y0 y1 y2, LeO (impl_LeastBurst.l0 k y0 y1 y2) (impl_LeastBurst.l0 (k + 1) y0 y1 y2))
  | 0 => fun _ _ _ r h => by simp [impl_LeastBurst.l0] at h
  | k + 1 => by
    have ih0 := impl_LeastBurst.mono_l k
    · intro y0 y1 y2
      unfold impl_LeastBurst.l0
      repeat' first
      | (with_reducible exact ih0 _ _ _)
      | (with_reducible exact LeO.refl _)
      | (with_reducible exact LeO.none _)
      | (with_reducible refine LeO.ite ?_ ?_)
      | (with_reducible refine LeO.bind ?_ (fun _ => ?_))
      | exact ih0 _ _ _
      | exact LeO.none _
      | refine LeO.ite ?_ ?_
      | refine LeO.bind ?_ (fun _ => ?_)
theorem impl_LeastBurst.mono : ∀ a0 a1 k, LeO (impl_LeastBurst.f k a0 a1) (impl_LeastBurst.f (k + 1) a0 a1) := by
  intro a0 a1 k
  have ih0 := impl_LeastBurst.mono_l k
  unfold impl_LeastBurst.f
  repeat' first
      | (with_reducible exact ih0 _ _ _)
      | (with_reducible exact LeO.refl _)
      | (with_reducible exact LeO.none _)
      | (with_reducible refine LeO.ite ?_ ?_)
      | (with_reducible refine LeO.bind ?_ (fun _ => ?_))
      | exact ih0 _ _ _
      | exact LeO.none _
      | refine LeO.ite ?_ ?_
      | refine LeO.bind ?_ (fun _ => ?_)
set_option maxHeartbeats 8000000 in
set_option maxRecDepth 100000 in
theorem impl_LeastBurst.calls (k : Nat) (a0 : Int) (A1 : Option Addr) (c1 : Nat) (l1 : List (S35)) (r : Int) (w : World) (hr1 : Kd.C k35 w A1 l1.length l1) (hc1 : l1.length ≤ c1) (h : impl_LeastBurst.f k a0 l1 = some r) :
    Calls Try.prog 29 #[.int .i64 a0, .slice A1 l1.length c1] w fun e w' => e = .returned (.int .i64 r) ∧ Below w.heap.size w w' := by
  have HR1 := Aside0.mk hr1
  have HC1 := Aside0.mk hc1
  clear hr1 hc1
  have HB := Aside0.mk (Below.refl w.heap.size w)
  have H : (impl_LeastBurst.l0 k a0 l1 1) = some r := h
  clear h
  have H' := Aside0.mk H
  clear H
  go_enter Try.func29, Try.ntmps29
  go_wp2
  go_loopg [5] k (fun kq v5 w' => ∃ (x5_1 : Int), v5 = .int .i64 x5_1 ∧ Aside0 (impl_LeastBurst.l0 kq a0 l1 x5_1 = some r) ∧ Aside0 (kq ≤ k) ∧ Aside0 (Below w.heap.size w w'))
  case atStart => exact ⟨(1), (by first | rfl | (simp; done) | (simp [*]; done)), H', ⟨Nat.le_refl _⟩, ⟨by repeat (first | (with_reducible first | exact HB.out | apply below_alloc | apply pw_below_drewN | apply below_drew1) | exact HB.out)⟩⟩
  case round =>
    clear H'
    try clear c1
    try clear c2
    try clear p2
    obtain ⟨x5_1, rfl, HA, HK1, HB⟩ := hrel
    cases gk with
    | zero => exact absurd HA.out (by simp [impl_LeastBurst.l0])
    | succ k1 =>
      have H := HA.out
      clear HA
      simp only [impl_LeastBurst.l0] at H
      by_cases c3 : x5_1 ≤ 100
      · rw [if_pos c3] at H
        have c3b0 : decide (x5_1 ≤ 100) = true := decide_eq_true c3
        clear c3
        replace H := Option.bind_eq_some_iff.mp H
        obtain ⟨t334, A40, H⟩ := H
        replace H : (if t334 = true then (some x5_1) else (impl_LeastBurst.l0 k1 a0 l1 (wrap64 (x5_1 + 1)))) = some r := H
        have A4 := Aside0.mk A40
        clear A40
        by_cases c5 : t334 = true
        · subst c5
          have H1 : (some x5_1) = some r := by rw [if_pos rfl] at H; exact H
          clear H
          have H := H1
          clear H1
          obtain rfl := Option.some.inj H
          go_wp2_with (first | ((with_reducible refine gate_callee (f := 22) rfl ?_); refine goesL_ (some 13) rfl rfl Try.func22 (by kernel_rfl) rfl #[.int .i64 a0, .int .i64 x5_1, .slice A1 l1.length c1] rfl (by (try simp only [List.map_toArray, List.map_cons, List.map_nil]); first | done | rfl | (simp only [List.length_drop, List.length_take]; rfl)) ?_; (with_reducible refine (impl_Conforms.calls a0 x5_1 _ _ l1 true _ ?side1 ?side2 A4.out).mono ?_); (case side1 => repeat (first | exact (Kd.C_below HR1.out HB.out) | (with_reducible refine Kd.C_alloc ?_ _) | (with_reducible refine Kd.C_drewN ?_ _) | (with_reducible refine Kd.C_drew ?_))); (case side2 => exact HC1.out); rintro e w6 ⟨rfl, hb⟩; refine ⟨_, rfl, ?_⟩; have n0_ := Aside0.mk (below_step (by repeat (first | (with_reducible first | exact HB.out | apply below_alloc | apply pw_below_drewN | apply below_drew1) | exact HB.out)) hb); clear HB; have HB := n0_; clear n0_; (try clear hb); (try clear hb2); (try clear hk); (try clear hi)))
          go_ret
          exact ⟨by first | rfl | (simp [errW_none, errW_some] <;> rfl) | (simp [*, errW_none, errW_some] <;> rfl), by repeat (first | (with_reducible first | exact HB.out | apply below_alloc | apply pw_below_drewN | apply below_drew1) | exact HB.out)⟩
        · replace c5 := Bool.eq_false_iff.mpr c5
          subst c5
          have H1 : (impl_LeastBurst.l0 k1 a0 l1 (wrap64 (x5_1 + 1))) = some r := by rw [if_neg (show ¬ (false = true) by decide)] at H; exact H
          clear H
          have H := H1
          clear H1
          have H' := Aside0.mk H
          clear H
          go_wp2_with (first | ((with_reducible refine gate_callee (f := 22) rfl ?_); refine goesL_ (some 13) rfl rfl Try.func22 (by kernel_rfl) rfl #[.int .i64 a0, .int .i64 x5_1, .slice A1 l1.length c1] rfl (by (try simp only [List.map_toArray, List.map_cons, List.map_nil]); first | done | rfl | (simp only [List.length_drop, List.length_take]; rfl)) ?_; (with_reducible refine (impl_Conforms.calls a0 x5_1 _ _ l1 false _ ?side1 ?side2 A4.out).mono ?_); (case side1 => repeat (first | exact (Kd.C_below HR1.out HB.out) | (with_reducible refine Kd.C_alloc ?_ _) | (with_reducible refine Kd.C_drewN ?_ _) | (with_reducible refine Kd.C_drew ?_))); (case side2 => exact HC1.out); rintro e w7 ⟨rfl, hb⟩; refine ⟨_, rfl, ?_⟩; have n0_ := Aside0.mk (below_step (by repeat (first | (with_reducible first | exact HB.out | apply below_alloc | apply pw_below_drewN | apply below_drew1) | exact HB.out)) hb); clear HB; have HB := n0_; clear n0_; (try clear hb); (try clear hb2); (try clear hk); (try clear hi)))
          go_roundg k1
          case measure => have := HK1.out; omega
          case rel => exact ⟨(wrap64 (x5_1 + 1)), (by first | rfl | (simp; done) | (simp [*]; done)), H', ⟨by have := HK1.out; omega⟩, ⟨by repeat (first | (with_reducible first | exact HB.out | apply below_alloc | apply pw_below_drewN | apply below_drew1) | exact HB.out)⟩⟩
      · rw [if_neg c3] at H
        have c3b0 : decide (x5_1 ≤ 100) = false := decide_eq_false c3
        clear c3
        obtain rfl := Option.some.inj H
        go_wp2
        go_ret
        exact ⟨by first | rfl | (simp [errW_none, errW_some] <;> rfl) | (simp [*, errW_none, errW_some] <;> rfl), by repeat (first | (with_reducible first | exact HB.out | apply below_alloc | apply pw_below_drewN | apply below_drew1) | exact HB.out)⟩

/-! ### spec_DrawTokensAt: function 30 -/
def spec_DrawTokensAt.f (k : Nat) (l0 : List Int) : Option (Int × Int × (List (S35)) × Int) := (spec_l21Open.f l0).bind fun bt348 => ((spec_l14Draw.f k bt348.1 bt348.2).bind fun bt351 => ((spec_l21Rd_num.f k bt348.1 bt351.2.2.2 (([0, 3, 10, 40, 2000, (-1), 2001] : List Int))).bind fun bt360 => (some (bt351.1, bt351.2.1, bt351.2.2.1, bt360.1))))
theorem spec_DrawTokensAt.mono : ∀ a0 k, LeO (spec_DrawTokensAt.f k a0) (spec_DrawTokensAt.f (k + 1) a0) := by
  intro a0 k
  unfold spec_DrawTokensAt.f
  repeat' first
      | (with_reducible exact spec_l14Draw.mono _ _ _)
      | (with_reducible exact spec_l21Rd_num.mono _ _ _ _)
      | (with_reducible exact LeO.refl _)
      | (with_reducible exact LeO.none _)
      | (with_reducible refine LeO.ite ?_ ?_)
      | (with_reducible refine LeO.bind ?_ (fun _ => ?_))
      | exact spec_l14Draw.mono _ _ _
      | exact spec_l21Rd_num.mono _ _ _ _
      | exact LeO.none _
      | refine LeO.ite ?_ ?_
      | refine LeO.bind ?_ (fun _ => ?_)
set_option maxHeartbeats 8000000 in
set_option maxRecDepth 100000 in
theorem spec_DrawTokensAt.calls (k : Nat) (A0 : Option Addr) (c0 : Nat) (l0 : List Int) (r1 : Int) (r2 : Int) (r3 : List (S35)) (r4 : Int) (w : World) (hr0 : Kd.C (Kd.int .u8) w A0 l0.length l0) (hc0 : l0.length ≤ c0) (h : spec_DrawTokensAt.f k l0 = some (r1, r2, r3, r4)) :
    Calls Try.prog 30 #[.slice A0 l0.length c0] w fun e w' => ∃ v2_ : Value, e = .returned (.tuple #[.int .i64 r1, .int .i64 r2, v2_, .int .i64 r4]) ∧ Kd.R k35 35 w' w.heap.size (fun _ => True) v2_ r3 ∧ Below w.heap.size w w' := by
  have HR0 := Aside0.mk hr0
  have HC0 := Aside0.mk hc0
  clear hr0 hc0
  have HB := Aside0.mk (Below.refl w.heap.size w)
  have H : ((spec_l21Open.f l0).bind fun bt348 => ((spec_l14Draw.f k bt348.1 bt348.2).bind fun bt351 => ((spec_l21Rd_num.f k bt348.1 bt351.2.2.2 (([0, 3, 10, 40, 2000, (-1), 2001] : List Int))).bind fun bt360 => (some (bt351.1, bt351.2.1, bt351.2.2.1, bt360.1))))) = some (r1, r2, r3, r4) := h
  clear h
  replace H := Option.bind_eq_some_iff.mp H
  obtain ⟨⟨t348, t349⟩, A20, H⟩ := H
  replace H : ((spec_l14Draw.f k t348 t349).bind fun bt351 => ((spec_l21Rd_num.f k t348 bt351.2.2.2 (([0, 3, 10, 40, 2000, (-1), 2001] : List Int))).bind fun bt360 => (some (bt351.1, bt351.2.1, bt351.2.2.1, bt360.1)))) = some (r1, r2, r3, r4) := H
  have A2 := Aside0.mk A20
  clear A20
  replace H := Option.bind_eq_some_iff.mp H
  obtain ⟨⟨t351, t352, t353, t356⟩, A30, H⟩ := H
  replace H : ((spec_l21Rd_num.f k t348 t356 (([0, 3, 10, 40, 2000, (-1), 2001] : List Int))).bind fun bt360 => (some (t351, t352, t353, bt360.1))) = some (r1, r2, r3, r4) := H
  have A3 := Aside0.mk A30
  clear A30
  obtain ⟨y357, hy357⟩ : ∃ y_ : List Int, y_ = (([0, 3, 10, 40, 2000, (-1), 2001] : List Int)) := ⟨_, rfl⟩
  replace H : ((spec_l21Rd_num.f k t348 t356 y357).bind fun bt360 => (some (t351, t352, t353, bt360.1))) = some (r1, r2, r3, r4) := by first | (rw [hy357]; with_reducible exact H) | (have H2_ := (Option.bind_some _ _).symm.trans H; rw [hy357]; with_reducible exact H2_) | (have H2_ := (Option.bind_some _ _).symm.trans H; with_reducible exact H2_) | with_reducible exact H | (rw [hy357]; exact H) | exact H
  have Ny357 := Aside0.mk hy357
  clear hy357
  replace H := Option.bind_eq_some_iff.mp H
  obtain ⟨⟨t360, t361⟩, A40, H⟩ := H
  replace H : (some (t351, t352, t353, t360)) = some (r1, r2, r3, r4) := H
  have A4 := Aside0.mk A40
  clear A40
  simp only [Option.some.injEq, Prod.mk.injEq] at H
  obtain ⟨rfl, rfl, rfl, rfl⟩ := H
  go_enter Try.func30, Try.ntmps30
  go_wp2_with (first | ((with_reducible refine gate_callee (f := 49) rfl ?_); refine goesL_ (some 11) rfl rfl Try.func49 (by kernel_rfl) rfl #[.slice A0 l0.length c0] rfl (by (try simp only [List.map_toArray, List.map_cons, List.map_nil]); first | done | rfl | (simp only [List.length_drop, List.length_take]; rfl)) ?_; (with_reducible refine (spec_l21Open.calls _ _ l0 t348 t349 w _ ?side1 ?side2 ?side3 A2.out).mono ?_); (case side1 => repeat (first | (with_reducible first | exact HB.out | apply below_alloc | apply pw_below_drewN | apply below_drew1) | exact HB.out)); (case side2 => exact HR0.out); (case side3 => exact HC0.out); rintro e w5 ⟨g350, rfl, hi, hb, hb2⟩; refine ⟨_, rfl, ?_⟩; have n0_ := Aside0.mk (hb); have n1_ := Aside0.mk (hi); clear HB; have HB := n0_; have HI350 := n1_; clear n0_ n1_; (try clear hb); (try clear hb2); (try clear hk); (try clear hi)) | ((with_reducible refine gate_callee (f := 48) rfl ?_); refine goesL_ (some 14) rfl rfl Try.func48 (by kernel_rfl) rfl #[.pointer (some ⟨g350, 0, none⟩)] rfl (by (try simp only [List.map_toArray, List.map_cons, List.map_nil]); first | done | rfl | (simp only [List.length_drop, List.length_take]; rfl)) ?_; (with_reducible refine (spec_l14Draw.calls k g350 t348 t349 t351 t352 t353 t356 w _ ?side1 ?side2 A3.out).mono ?_); (case side1 => repeat (first | (with_reducible first | exact HI350.out | apply IsS72.alloc | apply IsS72.drewN | apply IsS72.drew | apply IsS72.set_1) | exact HI350.out)); (case side2 => repeat (first | (with_reducible first | exact HB.out | apply below_alloc | apply pw_below_drewN | apply below_drew1 | refine below_set ?_ (IsS72.ge HI350.out)) | exact HB.out)); rintro e w6 ⟨v354, rfl, ho0, hi, hb, hk⟩; refine ⟨_, rfl, ?_⟩; have n0_ := Aside0.mk (Kd.R_lower ho0 (below_size (by repeat (first | (with_reducible first | exact HB.out | apply below_alloc | apply pw_below_drewN | apply below_drew1 | refine below_set ?_ (IsS72.ge HI350.out)) | exact HB.out)))); have n1_ := Aside0.mk (hb); have n2_ := Aside0.mk (hi); clear HB; clear HI350; have HO355 := n0_; have HB := n1_; have HI350 := n2_; clear n0_ n1_ n2_; (try clear hb); (try clear hb2); (try clear hk); (try clear hi); (try clear ho0)) | ((with_reducible refine gate_dst (N := 22) rfl ?_); refine Kd.R_lit (Kd.int .i64) _ 3 ?hg (N := 22) ?hd (xs := ([0, 3, 10, 40, 2000, (-1), 2001] : List Int)) (inner := [.int .i64 0, .int .i64 3, .int .i64 10, .int .i64 40, .int .i64 2000, .int .i64 (-1), .int .i64 2001]) (ok := fun _ => True) (okp := fun _ => True) ?hr ?hp (fun _ hk => hk) trivial (Below.refl _ _) (Nat.le_refl _) (by simp) ?_; (case hd => rfl); (case hg => rfl); (case hr => first | (go_simp; done) | (go_simp; rfl)); (case hp => exact (Reps.one (show Kd.M (Kd.int .i64) _ _ _ 0 [.int .i64 0] from rfl) (Reps.one (show Kd.M (Kd.int .i64) _ _ _ 3 [.int .i64 3] from rfl) (Reps.one (show Kd.M (Kd.int .i64) _ _ _ 10 [.int .i64 10] from rfl) (Reps.one (show Kd.M (Kd.int .i64) _ _ _ 40 [.int .i64 40] from rfl) (Reps.one (show Kd.M (Kd.int .i64) _ _ _ 2000 [.int .i64 2000] from rfl) (Reps.one (show Kd.M (Kd.int .i64) _ _ _ (-1) [.int .i64 (-1)] from rfl) (Reps.one (show Kd.M (Kd.int .i64) _ _ _ 2001 [.int .i64 2001] from rfl) (Reps.none _ _))))))))); intro v358 w7 ho8 hb hg_ hnew_; clear hg_ hnew_; (first | rw [← Ny357.out] at ho8 | (simp only [Int.reduceToNat] at ho8; rw [← Ny357.out] at ho8)); have n0_ := Aside0.mk (Kd.R_below (by (with_reducible repeat (first | apply Kd.R_alloc | apply Kd.R_drewN | apply Kd.R_drew)); exact HO355.out) hb); have n1_ := Aside0.mk (Kd.R_lower ho8 (below_size (by repeat (first | (with_reducible first | exact HB.out | apply below_alloc | apply pw_below_drewN | apply below_drew1 | refine below_set ?_ (IsS72.ge HI350.out)) | exact HB.out)))); have n2_ := Aside0.mk (IsS72.below (by repeat (first | (with_reducible first | exact HI350.out | apply IsS72.alloc | apply IsS72.drewN | apply IsS72.drew | apply IsS72.set_1) | exact HI350.out)) hb); have n3_ := Aside0.mk (below_step (by repeat (first | (with_reducible first | exact HB.out | apply below_alloc | apply pw_below_drewN | apply below_drew1 | refine below_set ?_ (IsS72.ge HI350.out)) | exact HB.out)) hb); clear HO355; clear HI350; clear HB; have HO355 := n0_; have HO359 := n1_; have HI350 := n2_; have HB := n3_; clear n0_ n1_ n2_ n3_; clear hb ho8; obtain ⟨Ao9, co9, eo9⟩ := Kd.R_slice HO359.out; subst eo9) | ((with_reducible refine gate_callee (f := 52) rfl ?_); refine goesL_ (some 23) rfl rfl Try.func52 (by kernel_rfl) rfl #[.pointer (some ⟨g350, 0, none⟩), .slice Ao9 y357.length co9] rfl (by (try simp only [List.map_toArray, List.map_cons, List.map_nil]); first | done | rfl | (simp only [List.length_drop, List.length_take]; rfl)) ?_; (with_reducible refine (spec_l21Rd_num.calls k g350 t348 t356 _ _ y357 t360 t361 w _ ?side1 ?side2 ?side3 ?side4 ?side5 A4.out).mono ?_); (case side1 => repeat (first | (with_reducible first | exact HI350.out | apply IsS72.alloc | apply IsS72.drewN | apply IsS72.drew | apply IsS72.set_1) | exact HI350.out)); (case side2 => repeat (first | (with_reducible first | exact HB.out | apply below_alloc | apply pw_below_drewN | apply below_drew1 | refine below_set ?_ (IsS72.ge HI350.out)) | exact HB.out)); (case side3 => repeat (first | exact (Kd.R_reads' HO359.out).2.2 | (with_reducible refine Kd.C_alloc ?_ _) | (with_reducible refine Kd.C_drewN ?_ _) | (with_reducible refine Kd.C_drew ?_))); (case side4 => exact (Kd.R_reads' HO359.out).2.1); (case side5 => exact far_slice (IsS72.own_ne HI350.out HO359.out (by decide))); rintro e w10 ⟨rfl, hi, hb, hk⟩; refine ⟨_, rfl, ?_⟩; have n0_ := Aside0.mk (Kd.R_mono (Kd.R_keep (IsS72.apart (show IsS72 w _ g350 t348 t356 from by repeat (first | (with_reducible first | exact HI350.out | apply IsS72.alloc | apply IsS72.drewN | apply IsS72.drew | apply IsS72.set_1) | exact HI350.out)) (by (with_reducible repeat (first | apply Kd.R_alloc | apply Kd.R_drewN | apply Kd.R_drew)); exact HO355.out) (by decide)) hk (fun _ h => h.2)) (fun _ h => h.1)); have n1_ := Aside0.mk (Kd.R_mono (Kd.R_keep (IsS72.apart (show IsS72 w _ g350 t348 t356 from by repeat (first | (with_reducible first | exact HI350.out | apply IsS72.alloc | apply IsS72.drewN | apply IsS72.drew | apply IsS72.set_1) | exact HI350.out)) (by (with_reducible repeat (first | apply Kd.R_alloc | apply Kd.R_drewN | apply Kd.R_drew)); exact HO359.out) (by decide)) hk (fun _ h => h.2)) (fun _ h => h.1)); have n2_ := Aside0.mk (hb); have n3_ := Aside0.mk (hi); clear HO355; clear HO359; clear HB; clear HI350; have HO355 := n0_; have HO359 := n1_; have HB := n2_; have HI350 := n3_; clear n0_ n1_ n2_ n3_; (try clear hb); (try clear hb2); (try clear hk); (try clear hi)))
  refine bodyPost_ret (results_list (rs := [.tmp 2, .tmp 3, .tmp 4, .tmp 5]) rfl (by simp) (.tmp (.tmp (.tmp (.tmp .nil))))) rfl ?_
  exact ⟨_, by first | rfl | (simp [errW_none, errW_some] <;> rfl) | (simp [*, errW_none, errW_some] <;> rfl), by (with_reducible repeat (first | apply Kd.R_alloc | apply Kd.R_drewN | apply Kd.R_drew)); exact HO355.out, by repeat (first | (with_reducible first | exact HB.out | apply below_alloc | apply pw_below_drewN | apply below_drew1 | refine below_set ?_ (IsS72.ge HI350.out)) | exact HB.out)⟩

/-! ### spec_DrawLeastBurst: function 31 -/
def spec_DrawLeastBurst.f (k : Nat) (l0 : List Int) : Option (Int × (List (S35))) := (spec_l21Open.f l0).bind fun bt378 => ((spec_l14Draw.f k bt378.1 bt378.2).bind fun bt381 => (some (bt381.1, bt381.2.2.1)))
theorem spec_DrawLeastBurst.mono : ∀ a0 k, LeO (spec_DrawLeastBurst.f k a0) (spec_DrawLeastBurst.f (k + 1) a0) := by
  intro a0 k
  unfold spec_DrawLeastBurst.f
  repeat' first
      | (with_reducible exact spec_l14Draw.mono _ _ _)
      | (with_reducible exact LeO.refl _)
      | (with_reducible exact LeO.none _)
      | (with_reducible refine LeO.ite ?_ ?_)
      | (with_reducible refine LeO.bind ?_ (fun _ => ?_))
      | exact spec_l14Draw.mono _ _ _
      | exact LeO.none _
      | refine LeO.ite ?_ ?_
      | refine LeO.bind ?_ (fun _ => ?_)
set_option maxHeartbeats 8000000 in
set_option maxRecDepth 100000 in
theorem spec_DrawLeastBurst.calls (k : Nat) (A0 : Option Addr) (c0 : Nat) (l0 : List Int) (r1 : Int) (r2 : List (S35)) (w : World) (hr0 : Kd.C (Kd.int .u8) w A0 l0.length l0) (hc0 : l0.length ≤ c0) (h : spec_DrawLeastBurst.f k l0 = some (r1, r2)) :
    Calls Try.prog 31 #[.slice A0 l0.length c0] w fun e w' => ∃ v1_ : Value, e = .returned (.tuple #[.int .i64 r1, v1_]) ∧ Kd.R k35 35 w' w.heap.size (fun _ => True) v1_ r2 ∧ Below w.heap.size w w' := by
  have HR0 := Aside0.mk hr0
  have HC0 := Aside0.mk hc0
  clear hr0 hc0
  have HB := Aside0.mk (Below.refl w.heap.size w)
  have H : ((spec_l21Open.f l0).bind fun bt378 => ((spec_l14Draw.f k bt378.1 bt378.2).bind fun bt381 => (some (bt381.1, bt381.2.2.1)))) = some (r1, r2) := h
  clear h
  replace H := Option.bind_eq_some_iff.mp H
  obtain ⟨⟨t378, t379⟩, A20, H⟩ := H
  replace H : ((spec_l14Draw.f k t378 t379).bind fun bt381 => (some (bt381.1, bt381.2.2.1))) = some (r1, r2) := H
  have A2 := Aside0.mk A20
  clear A20
  replace H := Option.bind_eq_some_iff.mp H
  obtain ⟨⟨t381, t382, t383, t386⟩, A30, H⟩ := H
  replace H : (some (t381, t383)) = some (r1, r2) := H
  have A3 := Aside0.mk A30
  clear A30
  simp only [Option.some.injEq, Prod.mk.injEq] at H
  obtain ⟨rfl, rfl⟩ := H
  go_enter Try.func31, Try.ntmps31
  go_wp2_with (first | ((with_reducible refine gate_callee (f := 49) rfl ?_); refine goesL_ (some 9) rfl rfl Try.func49 (by kernel_rfl) rfl #[.slice A0 l0.length c0] rfl (by (try simp only [List.map_toArray, List.map_cons, List.map_nil]); first | done | rfl | (simp only [List.length_drop, List.length_take]; rfl)) ?_; (with_reducible refine (spec_l21Open.calls _ _ l0 t378 t379 w _ ?side1 ?side2 ?side3 A2.out).mono ?_); (case side1 => repeat (first | (with_reducible first | exact HB.out | apply below_alloc | apply pw_below_drewN | apply below_drew1) | exact HB.out)); (case side2 => exact HR0.out); (case side3 => exact HC0.out); rintro e w4 ⟨g380, rfl, hi, hb, hb2⟩; refine ⟨_, rfl, ?_⟩; have n0_ := Aside0.mk (hb); have n1_ := Aside0.mk (hi); clear HB; have HB := n0_; have HI380 := n1_; clear n0_ n1_; (try clear hb); (try clear hb2); (try clear hk); (try clear hi)) | ((with_reducible refine gate_callee (f := 48) rfl ?_); refine goesL_ (some 10) rfl rfl Try.func48 (by kernel_rfl) rfl #[.pointer (some ⟨g380, 0, none⟩)] rfl (by (try simp only [List.map_toArray, List.map_cons, List.map_nil]); first | done | rfl | (simp only [List.length_drop, List.length_take]; rfl)) ?_; (with_reducible refine (spec_l14Draw.calls k g380 t378 t379 t381 t382 t383 t386 w _ ?side1 ?side2 A3.out).mono ?_); (case side1 => repeat (first | (with_reducible first | exact HI380.out | apply IsS72.alloc | apply IsS72.drewN | apply IsS72.drew | apply IsS72.set_1) | exact HI380.out)); (case side2 => repeat (first | (with_reducible first | exact HB.out | apply below_alloc | apply pw_below_drewN | apply below_drew1 | refine below_set ?_ (IsS72.ge HI380.out)) | exact HB.out)); rintro e w5 ⟨v384, rfl, ho0, hi, hb, hk⟩; refine ⟨_, rfl, ?_⟩; have n0_ := Aside0.mk (Kd.R_lower ho0 (below_size (by repeat (first | (with_reducible first | exact HB.out | apply below_alloc | apply pw_below_drewN | apply below_drew1 | refine below_set ?_ (IsS72.ge HI380.out)) | exact HB.out)))); have n1_ := Aside0.mk (hb); have n2_ := Aside0.mk (hi); clear HB; clear HI380; have HO385 := n0_; have HB := n1_; have HI380 := n2_; clear n0_ n1_ n2_; (try clear hb); (try clear hb2); (try clear hk); (try clear hi); (try clear ho0)))
  go_ret2
  exact ⟨_, by first | rfl | (simp [errW_none, errW_some] <;> rfl) | (simp [*, errW_none, errW_some] <;> rfl), by (with_reducible repeat (first | apply Kd.R_alloc | apply Kd.R_drewN | apply Kd.R_drew)); exact HO385.out, by repeat (first | (with_reducible first | exact HB.out | apply below_alloc | apply pw_below_drewN | apply below_drew1 | refine below_set ?_ (IsS72.ge HI380.out)) | exact HB.out)⟩

-- LIB p14
theorem l1InP_eq (n a b : Int) : spec_l1In.f n a b = some (decide (a ≤ n) && decide (n ≤ b)) := by
  unfold spec_l1In.f
  by_cases h : n ≥ a
  · rw [if_pos h, decide_eq_true (show a ≤ n from h), Bool.true_and]
  · rw [if_neg h, decide_eq_false (show ¬ a ≤ n from h), Bool.false_and]
theorem spulses_at (l : List S35) (hl : l.length ≤ 9223372036854775807) (d : Nat) : ∀ (k i : Nat), 1 ≤ i → i + d = l.length → d < k → spec_PulsesValid.l0 k l (i : Int) = some ((l.drop i).all pulseB && nondec (l.drop (i - 1)) && decide (l.length ≤ 60)) := by
  induction d with
  | zero =>
    intro k i h1 h2 hk
    obtain ⟨k, rfl⟩ : ∃ m, k = m + 1 := ⟨k - 1, by omega⟩
    simp only [spec_PulsesValid.l0]
    have e1 : l.drop i = [] := by rw [show i = l.length by omega, List.drop_length]
    have e2 : l.drop (i - 1 + 1) = [] := by rw [show i - 1 + 1 = l.length by omega, List.drop_length]
    have e3 : ((l.length : Int) ≤ 60) = (l.length ≤ 60) := by apply propext; omega
    rw [if_neg (by omega), e1, List.drop_eq_getElem_cons (show i - 1 < l.length by omega), e2]
    simp [nondec, e3]
  | succ d ih =>
    intro k i h1 h2 hk
    obtain ⟨k, rfl⟩ : ∃ m, k = m + 1 := ⟨k - 1, by omega⟩
    have e1 : wrap64 ((i : Int) - 1) = ((i - 1 : Nat) : Int) := by unfold wrap64; omega
    have ih' := ih k (i + 1) (by omega) (by omega) (by omega)
    simp only [spec_PulsesValid.l0]
    rw [e1, wrap_succ (show i < l.length by omega) (by omega), if_pos (by omega), if_pos (by omega), if_pos (show (i : Int) > 0 by omega), if_pos (by omega), if_pos (by omega), ih', l1InP_eq, l1InP_eq]
    rw [rdP_get l i (by omega), rdP_get l (i - 1) (by omega), List.drop_eq_getElem_cons (show i - 1 < l.length by omega), show i - 1 + 1 = i by omega, List.drop_eq_getElem_cons (show i < l.length by omega), nondec, show i + 1 - 1 = i by omega, List.drop_eq_getElem_cons (show i < l.length by omega)]
    simp only [Option.bind_some, List.all_cons]
    have hp : pulseB l[i] = ((decide (0 ≤ l[i].f0) && decide (l[i].f0 ≤ 2000)) && (decide (1 ≤ l[i].f1) && decide (l[i].f1 ≤ 50))) := rfl
    rw [hp]
    cases c1 : (decide (0 ≤ l[i].f0) && decide (l[i].f0 ≤ 2000)) with
    | false => rw [if_neg (by decide)]; simp
    | true =>
      rw [if_pos rfl]
      cases c2 : (decide (1 ≤ l[i].f1) && decide (l[i].f1 ≤ 50)) with
      | false => rw [if_neg (by decide)]; simp
      | true =>
        rw [if_pos rfl]
        by_cases c : l[i - 1].f0 > l[i].f0
        · rw [if_pos c, decide_eq_false (show ¬ l[i - 1].f0 ≤ l[i].f0 by omega)]; simp
        · rw [if_neg c, decide_eq_true (show l[i - 1].f0 ≤ l[i].f0 by omega)]; simp
theorem spulses_eq (l : List S35) (hl : l.length ≤ 9223372036854775807) (k : Nat) (hk : l.length < k) : spec_PulsesValid.f k l = some (pvB l) := by
  unfold spec_PulsesValid.f pvB
  obtain ⟨k, rfl⟩ : ∃ m, k = m + 1 := ⟨k - 1, by omega⟩
  simp only [spec_PulsesValid.l0]
  match l, hl, hk with
  | [], _, _ => rfl
  | x :: t, hl, hk =>
    have h1 := spulses_at (x :: t) hl t.length k 1 (by omega) (by simp; omega) (by simp at hk; omega)
    have hx : rd_T35 (x :: t) 0 = x := rfl
    rw [if_pos (by simp only [List.length_cons]; omega), if_pos (by omega), l1InP_eq, l1InP_eq, hx]
    simp only [Option.bind_some, List.all_cons]
    have hp : pulseB x = ((decide (0 ≤ x.f0) && decide (x.f0 ≤ 2000)) && (decide (1 ≤ x.f1) && decide (x.f1 ≤ 50))) := rfl
    rw [hp]
    cases c1 : (decide (0 ≤ x.f0) && decide (x.f0 ≤ 2000)) with
    | false => rw [if_neg (by decide)]; simp
    | true =>
      rw [if_pos rfl]
      cases c2 : (decide (1 ≤ x.f1) && decide (x.f1 ≤ 50)) with
      | false => rw [if_neg (by decide)]; simp
      | true =>
        rw [if_pos rfl, if_neg (by decide), wrap_eq (by decide) (by decide)]
        refine Eq.trans h1 ?_
        simp only [List.drop_succ_cons, List.drop_zero, Nat.sub_self, Bool.true_and]
theorem sfits_eq (r b : Int) (l : List S35) (hl : l.length ≤ 9223372036854775807) (k : Nat) (hk : l.length < k) : spec_l14Fits.f k r b l = some (fitsB r b l) := by
  unfold spec_l14Fits.f fitsB
  rw [l1InP_eq, l1InP_eq, spulses_eq l hl k hk]
  simp only [Option.bind_some]
  cases (decide (1 ≤ r) && decide (r ≤ 20)) <;> cases (decide (1 ≤ b) && decide (b ≤ 100)) <;> cases pvB l <;> rfl
theorem spol_at (r b : Int) (l : List S35) (hl : l.length ≤ 100000) (d : Nat) : ∀ (k i : Nat) (out : List Bool) (T a : Int), i + d = l.length → d < k → out.length ≤ i → spec_PolicePulses.l0 k r b l out T a (i : Int) = some (out ++ polL r b T a (l.drop i)) := by
  induction d with
  | zero =>
    intro k i out T a h2 hk ho
    obtain ⟨k, rfl⟩ : ∃ m, k = m + 1 := ⟨k - 1, by omega⟩
    simp only [spec_PolicePulses.l0]
    rw [if_neg (by omega), show i = l.length by omega, List.drop_length]
    simp [polL]
  | succ d ih =>
    intro k i out T a h2 hk ho
    obtain ⟨k, rfl⟩ : ∃ m, k = m + 1 := ⟨k - 1, by omega⟩
    simp only [spec_PolicePulses.l0]
    have hu : mn b (wrap64 (T + wrap64 (r * wrap64 (l[i].f0 - a)))) = untilT r b T a l[i].f0 := rfl
    rw [if_pos (by omega), if_pos (by omega), rdP_get l i (by omega), wrap_succ (show i < l.length by omega) (by omega), List.drop_eq_getElem_cons (show i < l.length by omega), polL, hu]
    have hok : takeOk r b T a l[i].f0 l[i].f1 = decide (l[i].f1 ≤ untilT r b T a l[i].f0) := rfl
    have hT : takeT r b T a l[i].f0 l[i].f1 = if l[i].f1 ≤ untilT r b T a l[i].f0 then wrap64 (untilT r b T a l[i].f0 - l[i].f1) else untilT r b T a l[i].f0 := rfl
    rw [hok, hT]
    by_cases c : l[i].f1 ≤ untilT r b T a l[i].f0
    · rw [if_pos c, if_pos (by omega), ih k (i + 1) _ _ _ (by omega) (by omega) (by simp; omega), if_pos c]
      simp
    · rw [if_neg c, if_pos (by omega), ih k (i + 1) _ _ _ (by omega) (by omega) (by simp; omega), if_neg c]
      simp
theorem spol_eq (r b : Int) (l : List S35) (hl : l.length ≤ 100000) (k : Nat) (hk : l.length < k) : spec_PolicePulses.f k r b l = some (polF r b l) := by
  unfold spec_PolicePulses.f polF
  rw [Option.bind_some, sfits_eq r b l (by omega) k hk, Option.bind_some]
  cases fitsB r b l with
  | false => rw [if_neg (by decide), if_neg (by decide)]
  | true =>
    rw [if_pos rfl, if_pos rfl]
    exact (spol_at r b l hl l.length k 0 [] b 0 (by omega) (by omega) (by simp)).trans (by rw [List.drop_zero, List.nil_append])
theorem polL_len (r b : Int) (l : List S35) : ∀ T a, (polL r b T a l).length = l.length := by
  induction l with
  | nil => intro T a; rfl
  | cons p l ih => intro T a; simp [polL, ih]
theorem sconf_at (r b : Int) (l : List S35) (hl : l.length ≤ 100000) (k0 : Nat) (hk0 : l.length < k0) (o : List Bool) (ho : o.length ≤ 100000) (d : Nat) : ∀ (k i : Nat), i + d = o.length → l.length + d + 1 < k → spec_Conforms.l0 k r b l o (i : Int) = some ((o.drop i).all id && fitsB r b l) := by
  induction d with
  | zero =>
    intro k i h2 hk
    obtain ⟨k, rfl⟩ : ∃ m, k = m + 1 := ⟨k - 1, by omega⟩
    simp only [spec_Conforms.l0]
    rw [if_neg (by omega), show i = o.length by omega, List.drop_length, sfits_eq r b l (by omega) k (by omega)]
    simp
  | succ d ih =>
    intro k i h2 hk
    obtain ⟨k, rfl⟩ : ∃ m, k = m + 1 := ⟨k - 1, by omega⟩
    have r1 : rdOf false o (i : Int) = o[i] := by simp [rdOf, List.getD_eq_getElem?_getD, show i < o.length by omega]
    simp only [spec_Conforms.l0]
    rw [if_pos (by omega), if_pos (by omega), r1, wrap_succ (show i < o.length by omega) (by omega), List.drop_eq_getElem_cons (show i < o.length by omega), List.all_cons]
    cases hc : o[i] with
    | false => rw [if_neg (by decide)]; simp
    | true => rw [if_pos rfl, ih k (i + 1) (by omega) (by omega)]; simp
theorem sconf_eq (r b : Int) (l : List S35) (hl : l.length ≤ 10000) (k : Nat) (hk : 2 * l.length + 1 < k) : spec_Conforms.f k r b l = some (confF r b l) := by
  unfold spec_Conforms.f confF
  rw [spol_eq r b l (by omega) k (by omega), Option.bind_some]
  have hlen : (polF r b l).length ≤ l.length := by unfold polF; split <;> simp [polL_len]
  exact (sconf_at r b l (by omega) k (by omega) (polF r b l) (by omega) (polF r b l).length k 0 (by omega) (by omega)).trans (by rw [List.drop_zero, Bool.and_comm])
theorem iconf_eq (r b : Int) (l : List S35) : impl_Conforms.f r b l = some (confF r b l) := rfl
theorem ipol_eq (r b : Int) (l : List S35) : impl_PolicePulses.f r b l = some (polF r b l) := rfl

-- LIB p14mono
theorem untilT_fit {r b T a t : Int} (h1 : 1 ≤ r ∧ r ≤ 20) (h2 : 1 ≤ b ∧ b ≤ 100) (h3 : 0 ≤ T ∧ T ≤ 100) (h4 : 0 ≤ a) (h5 : a ≤ t) (h6 : t ≤ 100000) : untilT r b T a t = mn b (T + r * (t - a)) ∧ 0 ≤ r * (t - a) ∧ r * (t - a) ≤ 2000000 := by
  have e1 : wrap64 (t - a) = t - a := wrap_eq (by omega) (by omega)
  have g1 : 0 ≤ r * (t - a) := Int.mul_nonneg (by omega) (by omega)
  have g2 : r * (t - a) ≤ 20 * 100000 := Int.mul_le_mul (by omega) (by omega) (by omega) (by omega)
  refine ⟨?_, g1, by omega⟩
  unfold untilT
  rw [e1, wrap_eq (x := r * (t - a)) (by omega) (by omega), wrap_eq (by omega) (by omega)]
theorem mn_eq (a b : Int) : mn a b = if b < a then b else a := rfl
/-- The frames of a list that are right at or behind a time. -/
def fromB (a : Int) : List S35 → Bool
  | [] => true
  | p :: l => (decide (a ≤ p.f0) && pulseB p) && fromB p.f0 l
theorem fromB_of (l : List S35) : ∀ a, l.all pulseB = true → nondec l = true → (∀ p ∈ l.head?, a ≤ p.f0) → fromB a l = true := by
  induction l with
  | nil => intro _ _ _ _; rfl
  | cons p l ih =>
    intro a h1 h2 h3
    rw [List.all_cons, Bool.and_eq_true] at h1
    have h4 : nondec l = true ∧ ∀ q ∈ l.head?, p.f0 ≤ q.f0 := by
      match l, h2 with
      | [], _ => exact ⟨rfl, by simp⟩
      | q :: t, h2 =>
        rw [nondec, Bool.and_eq_true] at h2
        exact ⟨h2.2, by simpa using h2.1⟩
    have h5 : a ≤ p.f0 := h3 p (by simp)
    rw [fromB, decide_eq_true h5, h1.1, ih p.f0 h1.2 h4.1 h4.2]
    rfl
theorem pv_from {l : List S35} (h : pvB l = true) : fromB 0 l = true := by
  unfold pvB at h
  rw [Bool.and_eq_true, Bool.and_eq_true] at h
  refine fromB_of l 0 h.1.1 h.1.2 ?_
  intro p hp
  have hm : p ∈ l := List.mem_of_mem_head? hp
  have := List.all_eq_true.1 h.1.1 p hm
  unfold pulseB at this
  simp at this
  omega
theorem fromB_cons {a : Int} {p : S35} {l : List S35} (h : fromB a (p :: l) = true) : a ≤ p.f0 ∧ 0 ≤ p.f0 ∧ p.f0 ≤ 2000 ∧ 1 ≤ p.f1 ∧ p.f1 ≤ 50 ∧ fromB p.f0 l = true := by
  rw [fromB, pulseB, Bool.and_eq_true] at h
  obtain ⟨h1, h2⟩ := h
  simp at h1
  exact ⟨by omega, by omega, by omega, by omega, by omega, h2⟩
/-- With more tokens and a greater burst what went through goes through. -/
theorem pol_mono {r : Int} (hr : 1 ≤ r ∧ r ≤ 20) {b b' : Int} (hb : 1 ≤ b ∧ b ≤ 100) (hb' : b ≤ b' ∧ b' ≤ 100) (l : List S35) : ∀ (T T' a : Int), 0 ≤ a → 0 ≤ T → T ≤ b → T ≤ T' → T' ≤ b' → fromB a l = true → (polL r b T a l).all id = true → (polL r b' T' a l).all id = true := by
  induction l with
  | nil => intro _ _ _ _ _ _ _ _ _ _; rfl
  | cons p l ih =>
    intro T T' a h0 h1 h2 h3 h4 hf hp
    obtain ⟨f1, f2, f3, f4, f5, f6⟩ := fromB_cons hf
    obtain ⟨u1, u2, u3⟩ := untilT_fit (r := r) (b := b) (T := T) (a := a) (t := p.f0) hr hb (by omega) h0 f1 (by omega)
    obtain ⟨v1, _, _⟩ := untilT_fit (r := r) (b := b') (T := T') (a := a) (t := p.f0) hr (by omega) (by omega) h0 f1 (by omega)
    rw [polL, List.all_cons, Bool.and_eq_true] at hp ⊢
    unfold takeOk takeT at hp ⊢
    rw [u1, mn_eq] at hp
    rw [v1, mn_eq]
    generalize r * (p.f0 - a) = z at *
    obtain ⟨p1, p2⟩ := hp
    have p1' : p.f1 ≤ (if T + z < b then T + z else b) := by simpa using p1
    rw [if_pos p1', wrap_eq (by split <;> omega) (by split <;> omega)] at p2
    have q1 : p.f1 ≤ (if T' + z < b' then T' + z else b') := by
      split at p1' <;> split <;> omega
    refine ⟨by simpa using q1, ?_⟩
    rw [if_pos q1, wrap_eq (by split <;> omega) (by split <;> omega)]
    exact ih _ _ _ f2 (by omega) (by split <;> omega) (by split <;> split <;> omega) (by split <;> omega) f6 p2
theorem conf_mono {r b b' : Int} {l : List S35} (h : confF r b l = true) (h1 : b ≤ b') (h2 : b' ≤ 100) : confF r b' l = true := by
  unfold confF at h ⊢
  rw [Bool.and_eq_true] at h ⊢
  obtain ⟨f1, f2, f3, f4, f5, f6⟩ := fitsB_facts h.1
  have hfit : fitsB r b' l = true := by
    unfold fitsB
    rw [f1]
    simp
    omega
  refine ⟨hfit, ?_⟩
  have h3 := h.2
  unfold polF at h3 ⊢
  rw [if_pos h.1] at h3
  rw [if_pos hfit]
  exact pol_mono ⟨f3, f4⟩ ⟨f5, f6⟩ ⟨h1, h2⟩ l b b' 0 (by omega) (by omega) (by omega) h1 (by omega) (pv_from f1) h3
/-- The least burst of those from one on, over so many. -/
def lbN (r : Int) (l : List S35) : Nat → Int → Int
  | 0, _ => -1
  | n + 1, b => if confF r b l = true then b else lbN r l n (b + 1)
theorem ilb_at (r : Int) (l : List S35) (d : Nat) : ∀ (k : Nat) (b : Int), b + d = 101 → 1 ≤ b → d < k → impl_LeastBurst.l0 k r l b = some (lbN r l d b) := by
  induction d with
  | zero =>
    intro k b h1 h2 hk
    obtain ⟨k, rfl⟩ : ∃ m, k = m + 1 := ⟨k - 1, by omega⟩
    simp only [impl_LeastBurst.l0]
    rw [if_neg (by omega), lbN]
  | succ d ih =>
    intro k b h1 h2 hk
    obtain ⟨k, rfl⟩ : ∃ m, k = m + 1 := ⟨k - 1, by omega⟩
    simp only [impl_LeastBurst.l0]
    rw [if_pos (by omega), iconf_eq, Option.bind_some, wrap_eq (by omega) (by omega), ih k (b + 1) (by omega) (by omega) (by omega), lbN]
    split <;> rfl
theorem slb_at (r : Int) (l : List S35) (hl : l.length ≤ 10000) (d : Nat) : ∀ (k : Nat) (b : Int), b + d = 101 → 1 ≤ b → 2 * l.length + 2 + d < k → spec_LeastBurst.l0 k r l b = some (lbN r l d b) := by
  induction d with
  | zero =>
    intro k b h1 h2 hk
    obtain ⟨k, rfl⟩ : ∃ m, k = m + 1 := ⟨k - 1, by omega⟩
    simp only [spec_LeastBurst.l0]
    rw [if_neg (by omega), lbN]
  | succ d ih =>
    intro k b h1 h2 hk
    obtain ⟨k, rfl⟩ : ∃ m, k = m + 1 := ⟨k - 1, by omega⟩
    simp only [spec_LeastBurst.l0]
    rw [if_pos (by omega), sconf_eq r b l hl k (by omega), Option.bind_some, wrap_eq (by omega) (by omega), ih k (b + 1) (by omega) (by omega) (by omega), lbN]
    split <;> rfl
theorem lbN_is (r : Int) (l : List S35) (d : Nat) : ∀ (b : Int), b + d = 101 → 1 ≤ b → (lbN r l d b = -1 ∧ ∀ c, b ≤ c → c ≤ 100 → confF r c l = false) ∨ (b ≤ lbN r l d b ∧ lbN r l d b ≤ 100 ∧ confF r (lbN r l d b) l = true ∧ ∀ c, b ≤ c → c < lbN r l d b → confF r c l = false) := by
  induction d with
  | zero => intro b h1 h2; exact Or.inl ⟨rfl, fun c h3 h4 => by omega⟩
  | succ d ih =>
    intro b h1 h2
    rw [lbN]
    cases hc : confF r b l with
    | true => rw [if_pos rfl]; exact Or.inr ⟨by omega, by omega, hc, fun c h3 h4 => by omega⟩
    | false =>
      rw [if_neg (by decide)]
      rcases ih (b + 1) (by omega) (by omega) with ⟨e, h⟩ | ⟨e1, e2, e3, e4⟩
      · refine Or.inl ⟨e, fun c h3 h4 => ?_⟩
        by_cases hcb : c = b
        · rw [hcb]; exact hc
        · exact h c (by omega) h4
      · refine Or.inr ⟨by omega, e2, e3, fun c h3 h4 => ?_⟩
        by_cases hcb : c = b
        · rw [hcb]; exact hc
        · exact e4 c (by omega) h4

-- LIB pdraw
/-- What a draw reads: at most 2000 bytes. -/
def Bytes (b : List Int) : Prop := b.length ≤ 2000 ∧ ∀ x ∈ b, 0 ≤ x ∧ x ≤ 255
theorem bits_xor_nonneg (a b : Int) (h1 : 0 ≤ a) (h2 : a < 4611686018427387904) (h3 : 0 ≤ b) (h4 : b < 4611686018427387904) : 0 ≤ Go.bits .xor .i64 a b := by
  obtain ⟨A, rfl⟩ := Int.eq_ofNat_of_zero_le h1
  obtain ⟨B, rfl⟩ := Int.eq_ofNat_of_zero_le h3
  have hx : A ^^^ B < 2 ^ 62 := Nat.xor_lt_two_pow (by omega) (by omega)
  have eA : (BitVec.ofInt 64 (A : Int)).toNat = A := by rw [BitVec.ofInt_natCast, BitVec.toNat_ofNat]; exact Nat.mod_eq_of_lt (by omega)
  have eB : (BitVec.ofInt 64 (B : Int)).toNat = B := by rw [BitVec.ofInt_natCast, BitVec.toNat_ofNat]; exact Nat.mod_eq_of_lt (by omega)
  show 0 ≤ IntKind.i64.wrap ((BitVec.ofInt 64 (A : Int) ^^^ BitVec.ofInt 64 (B : Int)).toNat : Int)
  rw [BitVec.toNat_xor, eA, eB, IntKind.wrap_i64]
  omega
theorem open_ok (l : List Int) (h : ∀ x ∈ l, (Lit.int .u8 x).wf = true) : ∃ b, spec_l21Open.f l = some (b, 0) ∧ Bytes b := by
  have hb : ∀ x ∈ l, 0 ≤ x ∧ x ≤ 255 := by
    intro x hx
    have h' := h x hx
    simp [Lit.wf, IntKind.min, IntKind.max, IntKind.signed, IntKind.bits] at h'
    omega
  unfold spec_l21Open.f
  by_cases hl : (l.length : Int) > 2000
  · rw [if_pos hl, if_pos (by omega)]
    exact ⟨_, rfl, by rw [List.length_take]; omega, fun x hx => hb x (List.mem_of_mem_take hx)⟩
  · rw [if_neg hl]
    exact ⟨_, rfl, by omega, hb⟩
theorem rd_mem {b : List Int} {i : Int} (h0 : 0 ≤ i) (h1 : i < b.length) : rd b i ∈ b := by
  obtain ⟨j, rfl⟩ := Int.eq_ofNat_of_zero_le h0
  rw [rd_get b j (by omega)]
  exact List.getElem_mem _
theorem tmod_range {a n : Int} (h0 : 0 ≤ a) (h1 : 1 ≤ n) : 0 ≤ Int.tmod a n ∧ Int.tmod a n < n := by
  rw [Int.tmod_eq_emod_of_nonneg h0]
  exact ⟨Int.emod_nonneg _ (by omega), Int.emod_lt_of_pos _ (by omega)⟩
/-- A draw of a number below n. -/
theorem pick_ok {b : List Int} (hb : Bytes b) {p : Int} (n : Int) (h0 : 0 ≤ p) (h1 : p ≤ 1099511627776) :
    ∃ r, 0 ≤ r ∧ (1 ≤ n → r < n) ∧ (n < 1 → r = 0) ∧ ∀ k, 1 ≤ k → spec_l21Rd_pick.f k b p n = some (r, p + 1) := by
  have e1 : wrap64 (p + 1) = p + 1 := wrap_eq (by omega) (by omega)
  have e2 : wrap64 (p + 1 - 1) = p := by rw [wrap_eq (by omega) (by omega)]; omega
  by_cases hn : n < 1
  · refine ⟨0, by omega, fun h => by omega, fun _ => rfl, fun k hk => ?_⟩
    obtain ⟨k, rfl⟩ : ∃ m, k = m + 1 := ⟨k - 1, by omega⟩
    unfold spec_l21Rd_pick.f
    simp only [spec_l21Rd_pick.j0]
    rw [if_pos hn, if_pos trivial, e1]
  by_cases hl : b.length = 0
  · refine ⟨0, by omega, fun h => by omega, fun _ => rfl, fun k hk => ?_⟩
    obtain ⟨k, rfl⟩ : ∃ m, k = m + 1 := ⟨k - 1, by omega⟩
    unfold spec_l21Rd_pick.f
    simp only [spec_l21Rd_pick.j0]
    rw [if_neg hn, if_pos (by simp [hl]), e1]
  obtain ⟨hb1, hb2⟩ := hb
  have hl0 : ((b.length : Int) == 0) = false := beq_eq_false_iff_ne.2 (by omega)
  by_cases hp : p < b.length
  · have hv := hb2 _ (rd_mem h0 hp)
    have ht := tmod_range hv.1 (show 1 ≤ n by omega)
    refine ⟨Int.tmod (rd b p) n, ht.1, fun _ => ht.2, fun h => by omega, fun k hk => ?_⟩
    obtain ⟨k, rfl⟩ : ∃ m, k = m + 1 := ⟨k - 1, by omega⟩
    unfold spec_l21Rd_pick.f
    simp only [spec_l21Rd_pick.j0]
    rw [if_neg hn, hl0, if_neg (by decide), e1, e2, if_pos hp, if_pos h0, if_neg (by omega), wrap_eq (by omega) (by omega)]
  · have hi1 := tmod_range h0 (show (1 : Int) ≤ b.length by omega)
    have hi2 := tmod_range (show 0 ≤ p * 7 + 3 by omega) (show (1 : Int) ≤ b.length by omega)
    have e3 : wrap64 (wrap64 (p * 7) + 3) = p * 7 + 3 := by rw [wrap_eq (x := p * 7) (by omega) (by omega), wrap_eq (by omega) (by omega)]
    have hv1 := hb2 _ (rd_mem hi1.1 hi1.2)
    have hv2 := hb2 _ (rd_mem hi2.1 hi2.2)
    have hd : Int.tdiv p b.length = p / b.length := Int.tdiv_eq_ediv_of_nonneg h0
    have hd0 : 0 ≤ p / (b.length : Int) := Int.ediv_nonneg h0 (by omega)
    have hd1 : p / (b.length : Int) ≤ p := Int.ediv_le_self _ h0
    generalize hx1 : rd b (Int.tmod p b.length) = v1 at hv1
    generalize hx2 : rd b (Int.tmod (p * 7 + 3) b.length) = v2 at hv2
    generalize hx3 : p / (b.length : Int) = q at hd hd0 hd1
    have e4 : wrap64 (wrap64 (wrap64 (wrap64 (wrap64 v1 * 131) + wrap64 (wrap64 v2 * 1117)) + wrap64 (p * 29)) + wrap64 (wrap64 q * 53)) = v1 * 131 + v2 * 1117 + p * 29 + q * 53 := by
      rw [wrap_eq (x := v1) (by omega) (by omega), wrap_eq (x := v2) (by omega) (by omega), wrap_eq (x := q) (by omega) (by omega), wrap_eq (x := v1 * 131) (by omega) (by omega), wrap_eq (x := v2 * 1117) (by omega) (by omega), wrap_eq (x := p * 29) (by omega) (by omega), wrap_eq (x := q * 53) (by omega) (by omega), wrap_eq (x := v1 * 131 + v2 * 1117) (by omega) (by omega), wrap_eq (x := v1 * 131 + v2 * 1117 + p * 29) (by omega) (by omega), wrap_eq (by omega) (by omega)]
    have hX : 0 ≤ v1 * 131 + v2 * 1117 + p * 29 + q * 53 ∧ v1 * 131 + v2 * 1117 + p * 29 + q * 53 ≤ 4000000000000000 := by omega
    generalize v1 * 131 + v2 * 1117 + p * 29 + q * 53 = X at e4 hX
    have hY : Int.tdiv X 64 = X / 64 := Int.tdiv_eq_ediv_of_nonneg hX.1
    have e5 : wrap64 (X / 64) = X / 64 := wrap_eq (by omega) (by omega)
    have hZ := bits_xor_nonneg X (X / 64) hX.1 (by omega) (by omega) (by omega)
    have ht := tmod_range hZ (show 1 ≤ n by omega)
    refine ⟨Int.tmod (Go.bits .xor .i64 X (X / 64)) n, ht.1, fun _ => ht.2, fun h => by omega, fun k hk => ?_⟩
    obtain ⟨k, rfl⟩ : ∃ m, k = m + 1 := ⟨k - 1, by omega⟩
    unfold spec_l21Rd_pick.f
    simp only [spec_l21Rd_pick.j0]
    rw [if_neg hn, hl0, if_neg (by decide), e1, e2, e3, if_neg hp, if_neg (by omega), if_pos hi1.1, if_pos hi1.2, if_pos hi2.1, if_pos hi2.2, if_neg (by omega), hx1, hx2, hd, e4, hY, e5]
/-- A draw of one of a list's numbers. -/
theorem num_ok {b : List Int} (hb : Bytes b) {p : Int} (l : List Int) (h0 : 0 ≤ p) (h1 : p ≤ 1099511627776) (hl : 0 < l.length) :
    ∃ x, x ∈ l ∧ ∀ k, 1 ≤ k → spec_l21Rd_num.f k b p l = some (x, p + 1) := by
  obtain ⟨r, hr0, hr1, _, hr⟩ := pick_ok hb (l.length : Int) h0 h1
  have hr2 := hr1 (by omega)
  refine ⟨rd l r, rd_mem hr0 hr2, fun k hk => ?_⟩
  unfold spec_l21Rd_num.f
  rw [hr k hk, Option.bind_some]
  simp only []
  rw [if_pos hr0, if_pos hr2]

-- LIB pdraw14
theorem l14_at {b : List Int} (hb : Bytes b) (rate burst : Int) (d : Nat) : ∀ (i : Int) (p at_ : Int) (x : List S35), i = d → d ≤ 30 → 0 ≤ p → p + 3 * (d : Int) ≤ 1000000000 → x.length + d ≤ 60 →
    ∃ r1 r2 l p', l.length ≤ 61 ∧ p ≤ p' ∧ p' ≤ p + 3 * d + 2 ∧ ∀ k, d + 1 < k → spec_l14Draw.l0 k rate burst x at_ i b p = some (r1, r2, l, p') := by
  induction d with
  | zero =>
    intro i p at_ x hi _ h0 h1 hx
    obtain ⟨r, hr0, _, _, hr⟩ := pick_ok hb 75 h0 (by omega)
    obtain ⟨n1, _, hn1⟩ := num_ok hb [0, 21] (show 0 ≤ p + 1 by omega) (by omega) (by simp)
    obtain ⟨n2, _, hn2⟩ := num_ok hb [0, 101] (show 0 ≤ p + 1 by omega) (by omega) (by simp)
    obtain ⟨n3, _, hn3⟩ := num_ok hb [0, 51] (show 0 ≤ p + 1 by omega) (by omega) (by simp)
    have go : ∀ {r1 r2 : Int} {l : List S35} {p' : Int}, l.length ≤ 61 → p ≤ p' → p' ≤ p + 2 → (∀ k, 1 ≤ k → (if r = 0 then ((spec_l21Rd_num.f k b (p + 1) (([0, 21] : List Int))).bind fun bt211 => (some (bt211.1, burst, x, bt211.2))) else (if r = 1 then ((spec_l21Rd_num.f k b (p + 1) (([0, 101] : List Int))).bind fun bt216 => (some (rate, bt216.1, x, bt216.2))) else (if r = 2 then (if x.length < 8796093022208 then (some (rate, burst, (x ++ [(⟨0, 1⟩ : S35)]), p + 1)) else (none)) else (if r = 3 then ((spec_l21Rd_num.f k b (p + 1) (([0, 51] : List Int))).bind fun bt224 => (if x.length < 8796093022208 then (some (rate, burst, (x ++ [(⟨at_, bt224.1⟩ : S35)]), bt224.2)) else (none))) else (if r = 4 then (if x.length < 8796093022208 then (some (rate, burst, (x ++ [(⟨2001, 1⟩ : S35)]), p + 1)) else (none)) else (some (rate, burst, x, p + 1))))))) = some (r1, r2, l, p')) →
        ∃ r1 r2 l p', l.length ≤ 61 ∧ p ≤ p' ∧ p' ≤ p + 3 * ((0 : Nat) : Int) + 2 ∧ ∀ k, 0 + 1 < k → spec_l14Draw.l0 k rate burst x at_ i b p = some (r1, r2, l, p') := by
      intro r1 r2 l p' a1 a2 a3 a4
      refine ⟨r1, r2, l, p', a1, a2, by omega, fun k hk => ?_⟩
      obtain ⟨k, rfl⟩ : ∃ m, k = m + 1 := ⟨k - 1, by omega⟩
      simp only [spec_l14Draw.l0]
      rw [if_neg (by omega), hr k (by omega), Option.bind_some]
      exact a4 k (by omega)
    have hx1 : x.length < 8796093022208 := by omega
    by_cases c0 : r = 0
    · exact go (l := x) (by omega) (show p ≤ p + 1 + 1 by omega) (by omega) (fun k hk => by rw [if_pos c0, hn1 k hk, Option.bind_some])
    by_cases c1 : r = 1
    · exact go (l := x) (by omega) (show p ≤ p + 1 + 1 by omega) (by omega) (fun k hk => by rw [if_neg c0, if_pos c1, hn2 k hk, Option.bind_some])
    by_cases c2 : r = 2
    · exact go (l := x ++ [⟨0, 1⟩]) (by simp; omega) (show p ≤ p + 1 by omega) (by omega) (fun k hk => by rw [if_neg c0, if_neg c1, if_pos c2, if_pos hx1])
    by_cases c3 : r = 3
    · exact go (l := x ++ [⟨at_, n3⟩]) (by simp; omega) (show p ≤ p + 1 + 1 by omega) (by omega) (fun k hk => by rw [if_neg c0, if_neg c1, if_neg c2, if_pos c3, hn3 k hk, Option.bind_some, if_pos hx1])
    by_cases c4 : r = 4
    · exact go (l := x ++ [⟨2001, 1⟩]) (by simp; omega) (show p ≤ p + 1 by omega) (by omega) (fun k hk => by rw [if_neg c0, if_neg c1, if_neg c2, if_neg c3, if_pos c4, if_pos hx1])
    · exact go (l := x) (by omega) (show p ≤ p + 1 by omega) (by omega) (fun k hk => by rw [if_neg c0, if_neg c1, if_neg c2, if_neg c3, if_neg c4])
  | succ d ih =>
    intro i p at_ x hi hd h0 h1 hx
    obtain ⟨n, hn, hnum⟩ := num_ok hb [5, 10, 50] h0 (by omega) (by simp)
    obtain ⟨r, hr0, _, _, hr⟩ := pick_ok hb n (show 0 ≤ p + 1 by omega) (by omega)
    obtain ⟨m, hm, hmum⟩ := num_ok hb [0, 1, 2, 0, 7, 30] (show 0 ≤ p + 1 + 1 by omega) (by omega) (by simp)
    obtain ⟨r1, r2, l, p', h2, h3, h4, h5⟩ := ih (wrap64 (i - 1)) (p + 1 + 1 + 1) (wrap64 (at_ + m)) (x ++ [⟨at_, wrap64 (1 + r)⟩]) (by rw [wrap_eq (by omega) (by omega)]; omega) (by omega) (by omega) (by omega) (by simp; omega)
    refine ⟨r1, r2, l, p', h2, by omega, by omega, fun k hk => ?_⟩
    obtain ⟨k, rfl⟩ : ∃ m, k = m + 1 := ⟨k - 1, by omega⟩
    simp only [spec_l14Draw.l0]
    rw [if_pos (by omega), hnum k (by omega), Option.bind_some]
    simp only []
    rw [hr k (by omega), Option.bind_some]
    simp only []
    rw [if_pos (by omega), hmum k (by omega), Option.bind_some]
    simp only []
    rw [h5 k (by omega)]
theorem l14_ok {b : List Int} (hb : Bytes b) : ∃ r1 r2 l p', l.length ≤ 61 ∧ 0 ≤ p' ∧ p' ≤ 1000 ∧ ∀ k, 40 < k → spec_l14Draw.f k b 0 = some (r1, r2, l, p') := by
  obtain ⟨a, _, ha⟩ := num_ok hb [1, 2, 5, 20, 3] (show (0 : Int) ≤ 0 by omega) (by omega) (by simp)
  obtain ⟨c, _, hc⟩ := num_ok hb [10, 5, 50, 100, 1, 20] (show (0 : Int) ≤ 0 + 1 by omega) (by omega) (by simp)
  obtain ⟨r, hr0, _, _, hr⟩ := pick_ok hb 5 (show (0 : Int) ≤ 0 + 1 + 1 by omega) (by omega)
  obtain ⟨n, hn, hnum⟩ := num_ok hb [5, 9, 2, 0, 20] (show (0 : Int) ≤ 0 + 1 + 1 + 1 by omega) (by omega) (by simp)
  have hn2 : 0 ≤ n ∧ n ≤ 20 := by simp at hn; omega
  obtain ⟨r1, r2, l, p', h2, h3, h4, h5⟩ := l14_at hb a c n.toNat n (0 + 1 + 1 + 1 + 1) r [] (by omega) (by omega) (by omega) (by omega) (by simp; omega)
  refine ⟨r1, r2, l, p', h2, by omega, by omega, fun k hk => ?_⟩
  unfold spec_l14Draw.f
  rw [ha k (by omega), Option.bind_some]
  simp only []
  rw [hc k (by omega), Option.bind_some]
  simp only []
  rw [hr k (by omega), Option.bind_some]
  simp only []
  rw [hnum k (by omega), Option.bind_some]
  simp only []
  exact h5 k (by omega)
theorem drawLB_ok {l0 : List Int} (h : ∀ x ∈ l0, (Lit.int .u8 x).wf = true) : ∃ r l, l.length ≤ 61 ∧ ∀ k, 40 < k → spec_DrawLeastBurst.f k l0 = some (r, l) := by
  obtain ⟨b, hb, hB⟩ := open_ok l0 h
  obtain ⟨r1, r2, l, p', h1, h2, h3, h4⟩ := l14_ok hB
  refine ⟨r1, l, h1, fun k hk => ?_⟩
  unfold spec_DrawLeastBurst.f
  rw [hb, Option.bind_some]
  simp only []
  rw [h4 k hk, Option.bind_some]
theorem drawPol_ok {l0 : List Int} (h : ∀ x ∈ l0, (Lit.int .u8 x).wf = true) : ∃ r b l, l.length ≤ 61 ∧ (∀ k, 40 < k → spec_DrawPolicePulses.f k l0 = some (r, b, l)) := by
  obtain ⟨b, hb, hB⟩ := open_ok l0 h
  obtain ⟨r1, r2, l, p', h1, h2, h3, h4⟩ := l14_ok hB
  refine ⟨r1, r2, l, h1, fun k hk => ?_⟩
  unfold spec_DrawPolicePulses.f
  rw [hb, Option.bind_some]
  simp only []
  rw [h4 k hk, Option.bind_some]
theorem drawShape_ok {l0 : List Int} (h : ∀ x ∈ l0, (Lit.int .u8 x).wf = true) : ∃ r b l, l.length ≤ 61 ∧ (∀ k, 40 < k → spec_DrawShapePulses.f k l0 = some (r, b, l)) := by
  obtain ⟨b, hb, hB⟩ := open_ok l0 h
  obtain ⟨r1, r2, l, p', h1, h2, h3, h4⟩ := l14_ok hB
  refine ⟨r1, r2, l, h1, fun k hk => ?_⟩
  unfold spec_DrawShapePulses.f
  rw [hb, Option.bind_some]
  simp only []
  rw [h4 k hk, Option.bind_some]
theorem drawTok_ok {l0 : List Int} (h : ∀ x ∈ l0, (Lit.int .u8 x).wf = true) : ∃ r b l a, l.length ≤ 61 ∧ a ≤ 2001 ∧ (∀ k, 40 < k → spec_DrawTokensAt.f k l0 = some (r, b, l, a)) := by
  obtain ⟨b, hb, hB⟩ := open_ok l0 h
  obtain ⟨r1, r2, l, p', h1, h2, h3, h4⟩ := l14_ok hB
  obtain ⟨n, hn, hnum⟩ := num_ok hB [0, 3, 10, 40, 2000, -1, 2001] h2 (by omega) (by simp)
  refine ⟨r1, r2, l, n, h1, by simp at hn; omega, fun k hk => ?_⟩
  unfold spec_DrawTokensAt.f
  rw [hb, Option.bind_some]
  simp only []
  rw [h4 k hk, Option.bind_some]
  simp only []
  rw [hnum k (by omega), Option.bind_some]

end Go.Proofs.Ytfbicfnokibobaa.PAll

/- Proved here: contracts of functions of the given program, or lemmas on them, for the laws of this seat. Written by xprint.py, a program of this session, on the ground of the kit's print; parts by hand: wip/x/ext. -/
import Derived.Test.YtfbicfnokibobaaPAllx0
import Derived.Test.YtfbicfnokibobaaPAllx2
namespace Go.Proofs.Ytfbicfnokibobaa.PAll
open Go.RowKit Go.Proofs.YtfbicfnokibobaaW.PrintWords Go.Proofs.YtfbicfnokibobaaW.PrintLast Go.Proofs.YtfbicfnokibobaaW.PrintMore
attribute [local go_sem] max2_int min2_int max_two min_two max_three min_three max_four min_four   -- for this text's walks alone
set_option linter.unusedVariables false
set_option linter.unusedSimpArgs false

/-! ### spec_PolicePulses: function 21 -/
def spec_PolicePulses.l0 : Nat → Int → Int → List (S35) → List Bool → Int → Int → Int → Option (List Bool)
  | 0, _, _, _, _, _, _, _ => none
  | k + 1, x0, x1, x2, x7, x8, x9, x10 => if x10 < (x2.length : Int) then (if 0 ≤ x10 then (if (mn x1 (wrap64 (x8 + (wrap64 (x0 * (wrap64 (((rd_T35 x2 x10).f0) - x9))))))) ≥ ((rd_T35 x2 x10).f1) then (if x7.length < 140737488355328 then (spec_PolicePulses.l0 k x0 x1 x2 (x7 ++ [decide ((mn x1 (wrap64 (x8 + (wrap64 (x0 * (wrap64 (((rd_T35 x2 x10).f0) - x9))))))) ≥ ((rd_T35 x2 x10).f1))]) (wrap64 ((mn x1 (wrap64 (x8 + (wrap64 (x0 * (wrap64 (((rd_T35 x2 x10).f0) - x9))))))) - ((rd_T35 x2 x10).f1))) ((rd_T35 x2 x10).f0) (wrap64 (x10 + 1))) else (none)) else (if x7.length < 140737488355328 then (spec_PolicePulses.l0 k x0 x1 x2 (x7 ++ [decide ((mn x1 (wrap64 (x8 + (wrap64 (x0 * (wrap64 (((rd_T35 x2 x10).f0) - x9))))))) ≥ ((rd_T35 x2 x10).f1))]) (mn x1 (wrap64 (x8 + (wrap64 (x0 * (wrap64 (((rd_T35 x2 x10).f0) - x9))))))) ((rd_T35 x2 x10).f0) (wrap64 (x10 + 1))) else (none))) else (none)) else (some x7)
def spec_PolicePulses.f (k : Nat) (a0 : Int) (a1 : Int) (l2 : List (S35)) : Option (List Bool) := (some (([] : List Bool) : List Bool)).bind fun y109 => ((spec_l14Fits.f k a0 a1 l2).bind fun t112 => (if t112 = true then (spec_PolicePulses.l0 k a0 a1 l2 y109 a1 0 0) else (some y109)))
theorem spec_PolicePulses.mono_l : ∀ k, (∀ y0 y1 y2 y3 y4 y5 y6, LeO (spec_PolicePulses.l0 k y0 y1 y2 y3 y4 y5 y6) (spec_PolicePulses.l0 (k + 1) y0 y1 y2 y3 y4 y5 y6))
  | 0 => fun _ _ _ _ _ _ _ r h => by simp [spec_PolicePulses.l0] at h
  | k + 1 => by
    have ih0 := spec_PolicePulses.mono_l k
    · intro y0 y1 y2 y3 y4 y5 y6
      unfold spec_PolicePulses.l0
      repeat' first
      | (with_reducible exact ih0 _ _ _ _ _ _ _)
      | (with_reducible exact spec_l14Fits.mono _ _ _ _)
      | (with_reducible exact LeO.refl _)
      | (with_reducible exact LeO.none _)
      | (with_reducible refine LeO.ite ?_ ?_)
      | (with_reducible refine LeO.bind ?_ (fun _ => ?_))
      | exact ih0 _ _ _ _ _ _ _
      | exact spec_l14Fits.mono _ _ _ _
      | exact LeO.none _
      | refine LeO.ite ?_ ?_
      | refine LeO.bind ?_ (fun _ => ?_)
theorem spec_PolicePulses.mono : ∀ a0 a1 a2 k, LeO (spec_PolicePulses.f k a0 a1 a2) (spec_PolicePulses.f (k + 1) a0 a1 a2) := by
  intro a0 a1 a2 k
  have ih0 := spec_PolicePulses.mono_l k
  unfold spec_PolicePulses.f
  repeat' first
      | (with_reducible exact ih0 _ _ _ _ _ _ _)
      | (with_reducible exact spec_l14Fits.mono _ _ _ _)
      | (with_reducible exact LeO.refl _)
      | (with_reducible exact LeO.none _)
      | (with_reducible refine LeO.ite ?_ ?_)
      | (with_reducible refine LeO.bind ?_ (fun _ => ?_))
      | exact ih0 _ _ _ _ _ _ _
      | exact spec_l14Fits.mono _ _ _ _
      | exact LeO.none _
      | refine LeO.ite ?_ ?_
      | refine LeO.bind ?_ (fun _ => ?_)
set_option maxHeartbeats 8000000 in
set_option maxRecDepth 100000 in
theorem spec_PolicePulses.calls (k : Nat) (a0 : Int) (a1 : Int) (A2 : Option Addr) (c2 : Nat) (l2 : List (S35)) (r : List Bool) (w : World) (hr2 : Kd.C k35 w A2 l2.length l2) (hc2 : l2.length ≤ c2) (h : spec_PolicePulses.f k a0 a1 l2 = some r) :
    Calls Try.prog 21 #[.int .i64 a0, .int .i64 a1, .slice A2 l2.length c2] w fun e w' => ∃ v0_ : Value, e = .returned (v0_) ∧ Kd.R Kd.bool 4 w' w.heap.size (fun _ => True) v0_ r ∧ Below w.heap.size w w' := by
  have HR2 := Aside0.mk hr2
  have HC2 := Aside0.mk hc2
  clear hr2 hc2
  have HB := Aside0.mk (Below.refl w.heap.size w)
  have H : ((some (([] : List Bool) : List Bool)).bind fun y109 => ((spec_l14Fits.f k a0 a1 l2).bind fun t112 => (if t112 = true then (spec_PolicePulses.l0 k a0 a1 l2 y109 a1 0 0) else (some y109)))) = some r := h
  clear h
  obtain ⟨y109, hy109⟩ : ∃ y_ : List Bool, y_ = (([] : List Bool)) := ⟨_, rfl⟩
  replace H : ((spec_l14Fits.f k a0 a1 l2).bind fun t112 => (if t112 = true then (spec_PolicePulses.l0 k a0 a1 l2 y109 a1 0 0) else (some y109))) = some r := by first | (rw [hy109]; with_reducible exact H) | (have H2_ := (Option.bind_some _ _).symm.trans H; rw [hy109]; with_reducible exact H2_) | (have H2_ := (Option.bind_some _ _).symm.trans H; with_reducible exact H2_) | with_reducible exact H | (rw [hy109]; exact H) | exact H
  have Ny109 := Aside0.mk hy109
  clear hy109
  replace H := Option.bind_eq_some_iff.mp H
  obtain ⟨t112, A40, H⟩ := H
  replace H : (if t112 = true then (spec_PolicePulses.l0 k a0 a1 l2 y109 a1 0 0) else (some y109)) = some r := H
  have A4 := Aside0.mk A40
  clear A40
  by_cases c5 : t112 = true
  · subst c5
    have H1 : (spec_PolicePulses.l0 k a0 a1 l2 y109 a1 0 0) = some r := by rw [if_pos rfl] at H; exact H
    clear H
    have H := H1
    clear H1
    have H' := Aside0.mk H
    clear H
    go_enter Try.func21, Try.ntmps21
    go_wp2_with (first | ((with_reducible refine gate_dst (N := 12) rfl ?_); refine Kd.R_lit Kd.bool _ 4 ?hg (N := 12) ?hd (xs := ([] : List Bool)) (inner := []) (ok := fun _ => True) (okp := fun _ => True) ?hr ?hp (fun _ hk => hk) trivial (Below.refl _ _) (Nat.le_refl _) (by simp) ?_; (case hd => rfl); (case hg => rfl); (case hr => first | (go_simp; done) | (go_simp; rfl)); (case hp => exact (Reps.none _ _)); intro v110 w6 ho7 hb hg_ hnew_; clear hg_ hnew_; (first | rw [← Ny109.out] at ho7 | (simp only [Int.reduceToNat] at ho7; rw [← Ny109.out] at ho7)); have n0_ := Aside0.mk (Kd.R_lower ho7 (below_size (by repeat (first | (with_reducible first | exact HB.out | apply below_alloc | apply pw_below_drewN | apply below_drew1) | exact HB.out)))); have n1_ := Aside0.mk (below_step (by repeat (first | (with_reducible first | exact HB.out | apply below_alloc | apply pw_below_drewN | apply below_drew1) | exact HB.out)) hb); clear HB; have HO111 := n0_; have HB := n1_; clear n0_ n1_; clear hb ho7) | ((with_reducible refine gate_callee (f := 40) rfl ?_); refine goesL_ (some 16) rfl rfl Try.func40 (by kernel_rfl) rfl #[.int .i64 a0, .int .i64 a1, .slice A2 l2.length c2] rfl (by (try simp only [List.map_toArray, List.map_cons, List.map_nil]); first | done | rfl | (simp only [List.length_drop, List.length_take]; rfl)) ?_; (with_reducible refine (spec_l14Fits.calls k a0 a1 _ _ l2 true _ ?side1 ?side2 A4.out).mono ?_); (case side1 => repeat (first | exact (Kd.C_below HR2.out HB.out) | (with_reducible refine Kd.C_alloc ?_ _) | (with_reducible refine Kd.C_drewN ?_ _) | (with_reducible refine Kd.C_drew ?_))); (case side2 => exact HC2.out); rintro e w8 ⟨rfl, hb⟩; refine ⟨_, rfl, ?_⟩; have n0_ := Aside0.mk (Kd.R_below (by (with_reducible repeat (first | apply Kd.R_alloc | apply Kd.R_drewN | apply Kd.R_drew)); exact HO111.out) hb); have n1_ := Aside0.mk (below_step (by repeat (first | (with_reducible first | exact HB.out | apply below_alloc | apply pw_below_drewN | apply below_drew1) | exact HB.out)) hb); clear HO111; clear HB; have HO111 := n0_; have HB := n1_; clear n0_ n1_; (try clear hb); (try clear hb2); (try clear hk); (try clear hi)))
    go_loopg [7, 8, 9, 10] k (fun kq v7 v8 v9 v10 w' => ∃ (x7_1 : List Bool) (x8_1 : Int) (x9_1 : Int) (x10_1 : Int), v8 = .int .i64 x8_1 ∧ v9 = .int .i64 x9_1 ∧ v10 = .int .i64 x10_1 ∧ Aside0 (spec_PolicePulses.l0 kq a0 a1 l2 x7_1 x8_1 x9_1 x10_1 = some r) ∧ Aside0 (kq ≤ k) ∧ Aside0 (Kd.R Kd.bool 4 w' w.heap.size (fun _ => True) v7 x7_1) ∧ Aside0 (Below w.heap.size w w'))
    case atStart => exact ⟨(y109), (a1), (0), (0), (by first | rfl | (simp; done) | (simp [*]; done)), (by first | rfl | (simp; done) | (simp [*]; done)), (by first | rfl | (simp; done) | (simp [*]; done)), H', ⟨Nat.le_refl _⟩, ⟨by (with_reducible repeat (first | apply Kd.R_alloc | apply Kd.R_drewN | apply Kd.R_drew)); exact HO111.out⟩, ⟨by repeat (first | (with_reducible first | exact HB.out | apply below_alloc | apply pw_below_drewN | apply below_drew1) | exact HB.out)⟩⟩
    case round =>
      clear H'
      try clear c2
      try clear p2
      try clear c4
      try clear c5
      obtain ⟨x7_1, x8_1, x9_1, x10_1, rfl, rfl, rfl, HA, HK1, HO_7, HB⟩ := hrel
      cases gk with
      | zero => exact absurd HA.out (by simp [spec_PolicePulses.l0])
      | succ k1 =>
        have H := HA.out
        clear HA
        simp only [spec_PolicePulses.l0] at H
        by_cases c9 : x10_1 < (l2.length : Int)
        · rw [if_pos c9] at H
          have c9b0 : decide (x10_1 < (l2.length : Int)) = true := decide_eq_true c9
          clear c9
          by_cases c10 : 0 ≤ x10_1
          · rw [if_pos c10] at H
            have c10b0 : decide (0 ≤ x10_1) = true := decide_eq_true c10
            clear c10
            obtain ⟨ji11, hji11⟩ : ∃ j_ : Int, (mn a1 (wrap64 (x8_1 + (wrap64 (a0 * (wrap64 (((rd_T35 l2 x10_1).f0) - x9_1))))))) = j_ := ⟨_, rfl⟩
            replace H : (if (ji11) ≥ ((rd_T35 l2 x10_1).f1) then (if x7_1.length < 140737488355328 then (spec_PolicePulses.l0 k1 a0 a1 l2 (x7_1 ++ [decide ((ji11) ≥ ((rd_T35 l2 x10_1).f1))]) (wrap64 ((ji11) - ((rd_T35 l2 x10_1).f1))) ((rd_T35 l2 x10_1).f0) (wrap64 (x10_1 + 1))) else (none)) else (if x7_1.length < 140737488355328 then (spec_PolicePulses.l0 k1 a0 a1 l2 (x7_1 ++ [decide ((ji11) ≥ ((rd_T35 l2 x10_1).f1))]) ji11 ((rd_T35 l2 x10_1).f0) (wrap64 (x10_1 + 1))) else (none))) = some r := by first | (rw [hji11] at H; exact H) | (simp only [hji11] at H ⊢; exact H)
            have hji11_ : (if (wrap64 (x8_1 + (wrap64 (a0 * (wrap64 (((rd_T35 l2 x10_1).f0) - x9_1)))))) < a1 then (wrap64 (x8_1 + (wrap64 (a0 * (wrap64 (((rd_T35 l2 x10_1).f0) - x9_1)))))) else a1) = ji11 := hji11
            by_cases c12 : (ji11) ≥ ((rd_T35 l2 x10_1).f1)
            · rw [if_pos c12] at H
              have c12b0 : decide (((rd_T35 l2 x10_1).f1) ≤ (ji11)) = true := decide_eq_true c12
              clear c12
              by_cases c13 : x7_1.length < 140737488355328
              · rw [if_pos c13] at H
                have LMc13 := Aside0.mk c13
                clear c13
                obtain ⟨y117, hy117⟩ : ∃ y_ : List Bool, y_ = (x7_1 ++ [decide ((ji11) ≥ ((rd_T35 l2 x10_1).f1))]) := ⟨_, rfl⟩
                replace H : (spec_PolicePulses.l0 k1 a0 a1 l2 y117 (wrap64 ((ji11) - ((rd_T35 l2 x10_1).f1))) ((rd_T35 l2 x10_1).f0) (wrap64 (x10_1 + 1))) = some r := by first | (rw [hy117]; with_reducible exact H) | (have H2_ := (Option.bind_some _ _).symm.trans H; rw [hy117]; with_reducible exact H2_) | (have H2_ := (Option.bind_some _ _).symm.trans H; with_reducible exact H2_) | with_reducible exact H | (rw [hy117]; exact H) | exact H
                have Ny117 : Aside0 (y117 = x7_1 ++ [true]) := ⟨by rw [hy117, show decide ((ji11) ≥ ((rd_T35 l2 x10_1).f1)) = true from c12b0]⟩
                clear hy117
                have H' := Aside0.mk H
                clear H
                have p113 : 0 ≤ (x10_1 : Int) := of_decide_eq_true (by first | (with_reducible assumption) | assumption)
                have q113 : x10_1 < (l2.length : Int) := of_decide_eq_true (by first | (with_reducible assumption) | assumption)
                obtain ⟨ad113, e113, hx113_0, hx113_1⟩ := at_T35 HR2.out x10_1 p113 q113
                cases e113
                replace hx113_0 := (HB.out.cell (World.block_lt_of_cell? w _ hx113_0)).trans hx113_0
                replace hx113_1 := (HB.out.cell (World.block_lt_of_cell? w _ hx113_1)).trans hx113_1
                replace p113 := eq_true p113
                replace q113 := eq_true q113
                have p114 : 0 ≤ (x10_1 : Int) := of_decide_eq_true (by first | (with_reducible assumption) | assumption)
                have q114 : x10_1 < (l2.length : Int) := of_decide_eq_true (by first | (with_reducible assumption) | assumption)
                obtain ⟨ad114, e114, hx114_0, hx114_1⟩ := at_T35 HR2.out x10_1 p114 q114
                obtain rfl : ad113 = ad114 := (by injection e114)
                replace hx114_0 := (HB.out.cell (World.block_lt_of_cell? w _ hx114_0)).trans hx114_0
                replace hx114_1 := (HB.out.cell (World.block_lt_of_cell? w _ hx114_1)).trans hx114_1
                replace p114 := eq_true p114
                replace q114 := eq_true q114
                have p115 : 0 ≤ (x10_1 : Int) := of_decide_eq_true (by first | (with_reducible assumption) | assumption)
                have q115 : x10_1 < (l2.length : Int) := of_decide_eq_true (by first | (with_reducible assumption) | assumption)
                obtain ⟨ad115, e115, hx115_0, hx115_1⟩ := at_T35 HR2.out x10_1 p115 q115
                obtain rfl : ad113 = ad115 := (by injection e115)
                replace hx115_0 := (HB.out.cell (World.block_lt_of_cell? w _ hx115_0)).trans hx115_0
                replace hx115_1 := (HB.out.cell (World.block_lt_of_cell? w _ hx115_1)).trans hx115_1
                replace p115 := eq_true p115
                replace q115 := eq_true q115
                have p116 : 0 ≤ (x10_1 : Int) := of_decide_eq_true (by first | (with_reducible assumption) | assumption)
                have q116 : x10_1 < (l2.length : Int) := of_decide_eq_true (by first | (with_reducible assumption) | assumption)
                obtain ⟨ad116, e116, hx116_0, hx116_1⟩ := at_T35 HR2.out x10_1 p116 q116
                obtain rfl : ad113 = ad116 := (by injection e116)
                replace hx116_0 := (HB.out.cell (World.block_lt_of_cell? w _ hx116_0)).trans hx116_0
                replace hx116_1 := (HB.out.cell (World.block_lt_of_cell? w _ hx116_1)).trans hx116_1
                replace p116 := eq_true p116
                replace q116 := eq_true q116
                go_wp2_with (first | ((with_reducible refine gate_builtin (b := .append) (xs := #[.tmp 59, .tmp 61]) rfl ?_); at_builtin; refine Kd.R_append Kd.bool (w0 := w) w.heap.size rfl (.tmp 59) (.tmp 61) 32 4 (.bool false) 1 rfl Try.underlying32 info4 rfl (by decide) (by omega) u7 x7_1 true [.bool true] (fun _ => True) (fun _ => False) rfl rfl ?aP (fun _ hk => hk.elim) ?aF ?aO ?aB ?aS ?aL ?_; (case aP => exact rfl); (case aB => exact (by repeat (first | (with_reducible first | exact HB.out | apply below_alloc | apply pw_below_drewN | apply below_drew1) | exact HB.out))); (case aF => exact (fun _ _ => trivial)); (case aO => exact (by (with_reducible repeat (first | apply Kd.R_alloc | apply Kd.R_drewN | apply Kd.R_drew)); exact HO_7.out)); (case aS => exact (below_size (by repeat (first | (with_reducible first | exact HB.out | apply below_alloc | apply pw_below_drewN | apply below_drew1) | exact HB.out)))); (case aL => have := LMc13.out; omega); intro v118 w14 ho hb hg hat; rw [← Ny117.out] at ho; have n0_ := Aside0.mk (hb); have n1_ := Aside0.mk (ho); clear HB; clear HO_7; have HB := n0_; have HO119 := n1_; clear n0_ n1_; clear ho hb hg hat))
                go_roundg k1
                case measure => have := HK1.out; omega
                case rel => exact ⟨(y117), (wrap64 ((ji11) - ((rd_T35 l2 x10_1).f1))), ((rd_T35 l2 x10_1).f0), (wrap64 (x10_1 + 1)), (by first | rfl | (simp; done) | (simp only [← hji11] <;> (first | rfl | simp)) | (simp [*]; done)), (by first | rfl | (simp; done) | (simp [*]; done)), (by first | rfl | (simp; done) | (simp [*]; done)), H', ⟨by have := HK1.out; omega⟩, ⟨by (with_reducible repeat (first | apply Kd.R_alloc | apply Kd.R_drewN | apply Kd.R_drew)); exact HO119.out⟩, ⟨by repeat (first | (with_reducible first | exact HB.out | apply below_alloc | apply pw_below_drewN | apply below_drew1) | exact HB.out)⟩⟩
              · rw [if_neg c13] at H
                exact absurd H (by simp)
            · rw [if_neg c12] at H
              have c12b0 : decide (((rd_T35 l2 x10_1).f1) ≤ (ji11)) = false := decide_eq_false c12
              clear c12
              by_cases c15 : x7_1.length < 140737488355328
              · rw [if_pos c15] at H
                have LMc15 := Aside0.mk c15
                clear c15
                obtain ⟨y120, hy120⟩ : ∃ y_ : List Bool, y_ = (x7_1 ++ [decide ((ji11) ≥ ((rd_T35 l2 x10_1).f1))]) := ⟨_, rfl⟩
                replace H : (spec_PolicePulses.l0 k1 a0 a1 l2 y120 ji11 ((rd_T35 l2 x10_1).f0) (wrap64 (x10_1 + 1))) = some r := by first | (rw [hy120]; with_reducible exact H) | (have H2_ := (Option.bind_some _ _).symm.trans H; rw [hy120]; with_reducible exact H2_) | (have H2_ := (Option.bind_some _ _).symm.trans H; with_reducible exact H2_) | with_reducible exact H | (rw [hy120]; exact H) | exact H
                have Ny120 : Aside0 (y120 = x7_1 ++ [false]) := ⟨by rw [hy120, show decide ((ji11) ≥ ((rd_T35 l2 x10_1).f1)) = false from c12b0]⟩
                clear hy120
                have H' := Aside0.mk H
                clear H
                have p113 : 0 ≤ (x10_1 : Int) := of_decide_eq_true (by first | (with_reducible assumption) | assumption)
                have q113 : x10_1 < (l2.length : Int) := of_decide_eq_true (by first | (with_reducible assumption) | assumption)
                obtain ⟨ad113, e113, hx113_0, hx113_1⟩ := at_T35 HR2.out x10_1 p113 q113
                cases e113
                replace hx113_0 := (HB.out.cell (World.block_lt_of_cell? w _ hx113_0)).trans hx113_0
                replace hx113_1 := (HB.out.cell (World.block_lt_of_cell? w _ hx113_1)).trans hx113_1
                replace p113 := eq_true p113
                replace q113 := eq_true q113
                have p114 : 0 ≤ (x10_1 : Int) := of_decide_eq_true (by first | (with_reducible assumption) | assumption)
                have q114 : x10_1 < (l2.length : Int) := of_decide_eq_true (by first | (with_reducible assumption) | assumption)
                obtain ⟨ad114, e114, hx114_0, hx114_1⟩ := at_T35 HR2.out x10_1 p114 q114
                obtain rfl : ad113 = ad114 := (by injection e114)
                replace hx114_0 := (HB.out.cell (World.block_lt_of_cell? w _ hx114_0)).trans hx114_0
                replace hx114_1 := (HB.out.cell (World.block_lt_of_cell? w _ hx114_1)).trans hx114_1
                replace p114 := eq_true p114
                replace q114 := eq_true q114
                have p115 : 0 ≤ (x10_1 : Int) := of_decide_eq_true (by first | (with_reducible assumption) | assumption)
                have q115 : x10_1 < (l2.length : Int) := of_decide_eq_true (by first | (with_reducible assumption) | assumption)
                obtain ⟨ad115, e115, hx115_0, hx115_1⟩ := at_T35 HR2.out x10_1 p115 q115
                obtain rfl : ad113 = ad115 := (by injection e115)
                replace hx115_0 := (HB.out.cell (World.block_lt_of_cell? w _ hx115_0)).trans hx115_0
                replace hx115_1 := (HB.out.cell (World.block_lt_of_cell? w _ hx115_1)).trans hx115_1
                replace p115 := eq_true p115
                replace q115 := eq_true q115
                go_wp2_with (first | ((with_reducible refine gate_builtin (b := .append) (xs := #[.tmp 59, .tmp 61]) rfl ?_); at_builtin; refine Kd.R_append Kd.bool (w0 := w) w.heap.size rfl (.tmp 59) (.tmp 61) 32 4 (.bool false) 1 rfl Try.underlying32 info4 rfl (by decide) (by omega) u7 x7_1 false [.bool false] (fun _ => True) (fun _ => False) rfl rfl ?aP (fun _ hk => hk.elim) ?aF ?aO ?aB ?aS ?aL ?_; (case aP => exact rfl); (case aB => exact (by repeat (first | (with_reducible first | exact HB.out | apply below_alloc | apply pw_below_drewN | apply below_drew1) | exact HB.out))); (case aF => exact (fun _ _ => trivial)); (case aO => exact (by (with_reducible repeat (first | apply Kd.R_alloc | apply Kd.R_drewN | apply Kd.R_drew)); exact HO_7.out)); (case aS => exact (below_size (by repeat (first | (with_reducible first | exact HB.out | apply below_alloc | apply pw_below_drewN | apply below_drew1) | exact HB.out)))); (case aL => have := LMc15.out; omega); intro v121 w16 ho hb hg hat; rw [← Ny120.out] at ho; have n0_ := Aside0.mk (hb); have n1_ := Aside0.mk (ho); clear HB; clear HO_7; have HB := n0_; have HO122 := n1_; clear n0_ n1_; clear ho hb hg hat))
                go_roundg k1
                case measure => have := HK1.out; omega
                case rel => exact ⟨(y120), (ji11), ((rd_T35 l2 x10_1).f0), (wrap64 (x10_1 + 1)), (by first | rfl | (simp; done) | (simp only [← hji11] <;> (first | rfl | simp)) | (simp [*]; done)), (by first | rfl | (simp; done) | (simp [*]; done)), (by first | rfl | (simp; done) | (simp [*]; done)), H', ⟨by have := HK1.out; omega⟩, ⟨by (with_reducible repeat (first | apply Kd.R_alloc | apply Kd.R_drewN | apply Kd.R_drew)); exact HO122.out⟩, ⟨by repeat (first | (with_reducible first | exact HB.out | apply below_alloc | apply pw_below_drewN | apply below_drew1) | exact HB.out)⟩⟩
              · rw [if_neg c15] at H
                exact absurd H (by simp)
          · rw [if_neg c10] at H
            exact absurd H (by simp)
        · rw [if_neg c9] at H
          have c9b0 : decide (x10_1 < (l2.length : Int)) = false := decide_eq_false c9
          clear c9
          obtain rfl := Option.some.inj H
          go_wp2
          go_ret
          exact ⟨_, by first | rfl | (simp [errW_none, errW_some] <;> rfl) | (simp [*, errW_none, errW_some] <;> rfl), by (with_reducible repeat (first | apply Kd.R_alloc | apply Kd.R_drewN | apply Kd.R_drew)); exact HO_7.out, by repeat (first | (with_reducible first | exact HB.out | apply below_alloc | apply pw_below_drewN | apply below_drew1) | exact HB.out)⟩
  · replace c5 := Bool.eq_false_iff.mpr c5
    subst c5
    have H1 : (some y109) = some r := by rw [if_neg (show ¬ (false = true) by decide)] at H; exact H
    clear H
    have H := H1
    clear H1
    obtain rfl := Option.some.inj H
    go_enter Try.func21, Try.ntmps21
    go_wp2_with (first | ((with_reducible refine gate_dst (N := 12) rfl ?_); refine Kd.R_lit Kd.bool _ 4 ?hg (N := 12) ?hd (xs := ([] : List Bool)) (inner := []) (ok := fun _ => True) (okp := fun _ => True) ?hr ?hp (fun _ hk => hk) trivial (Below.refl _ _) (Nat.le_refl _) (by simp) ?_; (case hd => rfl); (case hg => rfl); (case hr => first | (go_simp; done) | (go_simp; rfl)); (case hp => exact (Reps.none _ _)); intro v110 w17 ho18 hb hg_ hnew_; clear hg_ hnew_; (first | rw [← Ny109.out] at ho18 | (simp only [Int.reduceToNat] at ho18; rw [← Ny109.out] at ho18)); have n0_ := Aside0.mk (Kd.R_lower ho18 (below_size (by repeat (first | (with_reducible first | exact HB.out | apply below_alloc | apply pw_below_drewN | apply below_drew1) | exact HB.out)))); have n1_ := Aside0.mk (below_step (by repeat (first | (with_reducible first | exact HB.out | apply below_alloc | apply pw_below_drewN | apply below_drew1) | exact HB.out)) hb); clear HB; have HO111 := n0_; have HB := n1_; clear n0_ n1_; clear hb ho18) | ((with_reducible refine gate_callee (f := 40) rfl ?_); refine goesL_ (some 16) rfl rfl Try.func40 (by kernel_rfl) rfl #[.int .i64 a0, .int .i64 a1, .slice A2 l2.length c2] rfl (by (try simp only [List.map_toArray, List.map_cons, List.map_nil]); first | done | rfl | (simp only [List.length_drop, List.length_take]; rfl)) ?_; (with_reducible refine (spec_l14Fits.calls k a0 a1 _ _ l2 false _ ?side1 ?side2 A4.out).mono ?_); (case side1 => repeat (first | exact (Kd.C_below HR2.out HB.out) | (with_reducible refine Kd.C_alloc ?_ _) | (with_reducible refine Kd.C_drewN ?_ _) | (with_reducible refine Kd.C_drew ?_))); (case side2 => exact HC2.out); rintro e w19 ⟨rfl, hb⟩; refine ⟨_, rfl, ?_⟩; have n0_ := Aside0.mk (Kd.R_below (by (with_reducible repeat (first | apply Kd.R_alloc | apply Kd.R_drewN | apply Kd.R_drew)); exact HO111.out) hb); have n1_ := Aside0.mk (below_step (by repeat (first | (with_reducible first | exact HB.out | apply below_alloc | apply pw_below_drewN | apply below_drew1) | exact HB.out)) hb); clear HO111; clear HB; have HO111 := n0_; have HB := n1_; clear n0_ n1_; (try clear hb); (try clear hb2); (try clear hk); (try clear hi)))
    go_ret
    exact ⟨_, by first | rfl | (simp [errW_none, errW_some] <;> rfl) | (simp [*, errW_none, errW_some] <;> rfl), by (with_reducible repeat (first | apply Kd.R_alloc | apply Kd.R_drewN | apply Kd.R_drew)); exact HO111.out, by repeat (first | (with_reducible first | exact HB.out | apply below_alloc | apply pw_below_drewN | apply below_drew1) | exact HB.out)⟩

/-! ### spec_Conforms: function 23 -/
def spec_Conforms.l0 : Nat → Int → Int → List (S35) → List Bool → Int → Option (Bool)
  | 0, _, _, _, _, _ => none
  | k + 1, x0, x1, x2, x7, x8 => if x8 < (x7.length : Int) then (if 0 ≤ x8 then (if rdOf false x7 x8 = true then (spec_Conforms.l0 k x0 x1 x2 x7 (wrap64 (x8 + 1))) else (some false)) else (none)) else ((spec_l14Fits.f k x0 x1 x2).bind fun t281 => (some t281))
def spec_Conforms.f (k : Nat) (a0 : Int) (a1 : Int) (l2 : List (S35)) : Option (Bool) := (spec_PolicePulses.f k a0 a1 l2).bind fun t277 => (spec_Conforms.l0 k a0 a1 l2 t277 0)
theorem spec_Conforms.mono_l : ∀ k, (∀ y0 y1 y2 y3 y4, LeO (spec_Conforms.l0 k y0 y1 y2 y3 y4) (spec_Conforms.l0 (k + 1) y0 y1 y2 y3 y4))
  | 0 => fun _ _ _ _ _ r h => by simp [spec_Conforms.l0] at h
  | k + 1 => by
    have ih0 := spec_Conforms.mono_l k
    · intro y0 y1 y2 y3 y4
      unfold spec_Conforms.l0
      repeat' first
      | (with_reducible exact ih0 _ _ _ _ _)
      | (with_reducible exact spec_PolicePulses.mono _ _ _ _)
      | (with_reducible exact spec_l14Fits.mono _ _ _ _)
      | (with_reducible exact LeO.refl _)
      | (with_reducible exact LeO.none _)
      | (with_reducible refine LeO.ite ?_ ?_)
      | (with_reducible refine LeO.bind ?_ (fun _ => ?_))
      | exact ih0 _ _ _ _ _
      | exact spec_PolicePulses.mono _ _ _ _
      | exact spec_l14Fits.mono _ _ _ _
      | exact LeO.none _
      | refine LeO.ite ?_ ?_
      | refine LeO.bind ?_ (fun _ => ?_)
theorem spec_Conforms.mono : ∀ a0 a1 a2 k, LeO (spec_Conforms.f k a0 a1 a2) (spec_Conforms.f (k + 1) a0 a1 a2) := by
  intro a0 a1 a2 k
  have ih0 := spec_Conforms.mono_l k
  unfold spec_Conforms.f
  repeat' first
      | (with_reducible exact ih0 _ _ _ _ _)
      | (with_reducible exact spec_PolicePulses.mono _ _ _ _)
      | (with_reducible exact spec_l14Fits.mono _ _ _ _)
      | (with_reducible exact LeO.refl _)
      | (with_reducible exact LeO.none _)
      | (with_reducible refine LeO.ite ?_ ?_)
      | (with_reducible refine LeO.bind ?_ (fun _ => ?_))
      | exact ih0 _ _ _ _ _
      | exact spec_PolicePulses.mono _ _ _ _
      | exact spec_l14Fits.mono _ _ _ _
      | exact LeO.none _
      | refine LeO.ite ?_ ?_
      | refine LeO.bind ?_ (fun _ => ?_)
set_option maxHeartbeats 8000000 in
set_option maxRecDepth 100000 in
theorem spec_Conforms.calls (k : Nat) (a0 : Int) (a1 : Int) (A2 : Option Addr) (c2 : Nat) (l2 : List (S35)) (r : Bool) (w : World) (hr2 : Kd.C k35 w A2 l2.length l2) (hc2 : l2.length ≤ c2) (h : spec_Conforms.f k a0 a1 l2 = some r) :
    Calls Try.prog 23 #[.int .i64 a0, .int .i64 a1, .slice A2 l2.length c2] w fun e w' => e = .returned (.bool r) ∧ Below w.heap.size w w' := by
  have HR2 := Aside0.mk hr2
  have HC2 := Aside0.mk hc2
  clear hr2 hc2
  have HB := Aside0.mk (Below.refl w.heap.size w)
  have H : ((spec_PolicePulses.f k a0 a1 l2).bind fun t277 => (spec_Conforms.l0 k a0 a1 l2 t277 0)) = some r := h
  clear h
  replace H := Option.bind_eq_some_iff.mp H
  obtain ⟨t277, A40, H⟩ := H
  replace H : (spec_Conforms.l0 k a0 a1 l2 t277 0) = some r := H
  have A4 := Aside0.mk A40
  clear A40
  have H' := Aside0.mk H
  clear H
  go_enter Try.func23, Try.ntmps23
  go_wp2_with (first | ((with_reducible refine gate_callee (f := 21) rfl ?_); refine goesL_ (some 12) rfl rfl Try.func21 (by kernel_rfl) rfl #[.int .i64 a0, .int .i64 a1, .slice A2 l2.length c2] rfl (by (try simp only [List.map_toArray, List.map_cons, List.map_nil]); first | done | rfl | (simp only [List.length_drop, List.length_take]; rfl)) ?_; (with_reducible refine (spec_PolicePulses.calls k a0 a1 _ _ l2 t277 _ ?side1 ?side2 A4.out).mono ?_); (case side1 => repeat (first | exact HR2.out | (with_reducible refine Kd.C_alloc ?_ _) | (with_reducible refine Kd.C_drewN ?_ _) | (with_reducible refine Kd.C_drew ?_))); (case side2 => exact HC2.out); rintro e w5 ⟨v278, rfl, ho0, hb⟩; refine ⟨_, rfl, ?_⟩; have n0_ := Aside0.mk (Kd.R_lower ho0 (below_size (by repeat (first | (with_reducible first | exact HB.out | apply below_alloc | apply pw_below_drewN | apply below_drew1) | exact HB.out)))); have n1_ := Aside0.mk (below_step (by repeat (first | (with_reducible first | exact HB.out | apply below_alloc | apply pw_below_drewN | apply below_drew1) | exact HB.out)) hb); clear HB; have HO279 := n0_; have HB := n1_; clear n0_ n1_; (try clear hb); (try clear hb2); (try clear hk); (try clear hi); (try clear ho0)))
  go_loopg [8] k (fun kq v8 w' => ∃ (x8_1 : Int), v8 = .int .i64 x8_1 ∧ Aside0 (spec_Conforms.l0 kq a0 a1 l2 t277 x8_1 = some r) ∧ Aside0 (kq ≤ k) ∧ Aside0 (Kd.R Kd.bool 4 w' w.heap.size (fun _ => True) v278 t277) ∧ Aside0 (Below w.heap.size w w'))
  case atStart => exact ⟨(0), (by first | rfl | (simp; done) | (simp [*]; done)), H', ⟨Nat.le_refl _⟩, ⟨by (with_reducible repeat (first | apply Kd.R_alloc | apply Kd.R_drewN | apply Kd.R_drew)); exact HO279.out⟩, ⟨by repeat (first | (with_reducible first | exact HB.out | apply below_alloc | apply pw_below_drewN | apply below_drew1) | exact HB.out)⟩⟩
  case round =>
    clear H'
    try clear c2
    try clear p2
    obtain ⟨x8_1, rfl, HA, HK1, HO_7, HB⟩ := hrel
    cases gk with
    | zero => exact absurd HA.out (by simp [spec_Conforms.l0])
    | succ k1 =>
      have H := HA.out
      clear HA
      simp only [spec_Conforms.l0] at H
      by_cases c6 : x8_1 < (t277.length : Int)
      · rw [if_pos c6] at H
        have c6b0 : decide (x8_1 < (t277.length : Int)) = true := decide_eq_true c6
        clear c6
        by_cases c7 : 0 ≤ x8_1
        · rw [if_pos c7] at H
          have c7b0 : decide (0 ≤ x8_1) = true := decide_eq_true c7
          clear c7
          obtain ⟨bq8, hbq8⟩ : ∃ b_ : Bool, b_ = (rdOf false t277 x8_1) := ⟨_, rfl⟩
          replace H : (if bq8 = true then (spec_Conforms.l0 k1 a0 a1 l2 t277 (wrap64 (x8_1 + 1))) else (some false)) = some r := by rw [← hbq8] at H; exact H
          have Nbq8 := Aside0.mk hbq8
          clear hbq8
          by_cases c9 : bq8 = true
          · subst c9
            have H1 : (spec_Conforms.l0 k1 a0 a1 l2 t277 (wrap64 (x8_1 + 1))) = some r := by rw [if_pos rfl] at H; exact H
            clear H
            have H := H1
            clear H1
            have H' := Aside0.mk H
            clear H
            obtain ⟨Ao10, co10, eo10⟩ := Kd.R_slice HO_7.out
            subst eo10
            have p280 : 0 ≤ (x8_1 : Int) := of_decide_eq_true (by first | (with_reducible assumption) | assumption)
            have q280 : x8_1 < (t277.length : Int) := of_decide_eq_true (by first | (with_reducible assumption) | assumption)
            obtain ⟨ad280, e280, hx280_0⟩ := Kd.at_bool (Kd.R_reads' HO_7.out).2.2 x8_1 p280 q280
            (try rw [← Nbq8.out] at hx280_0)
            cases e280
            replace p280 := eq_true p280
            replace q280 := eq_true q280
            go_wp2
            go_roundg k1
            case measure => have := HK1.out; omega
            case rel => exact ⟨(wrap64 (x8_1 + 1)), (by first | rfl | (simp; done) | (simp [*]; done)), H', ⟨by have := HK1.out; omega⟩, ⟨by (with_reducible repeat (first | apply Kd.R_alloc | apply Kd.R_drewN | apply Kd.R_drew)); exact HO_7.out⟩, ⟨by repeat (first | (with_reducible first | exact HB.out | apply below_alloc | apply pw_below_drewN | apply below_drew1) | exact HB.out)⟩⟩
          · replace c9 := Bool.eq_false_iff.mpr c9
            subst c9
            have H1 : (some false) = some r := by rw [if_neg (show ¬ (false = true) by decide)] at H; exact H
            clear H
            have H := H1
            clear H1
            obtain rfl := Option.some.inj H
            obtain ⟨Ao11, co11, eo11⟩ := Kd.R_slice HO_7.out
            subst eo11
            have p280 : 0 ≤ (x8_1 : Int) := of_decide_eq_true (by first | (with_reducible assumption) | assumption)
            have q280 : x8_1 < (t277.length : Int) := of_decide_eq_true (by first | (with_reducible assumption) | assumption)
            obtain ⟨ad280, e280, hx280_0⟩ := Kd.at_bool (Kd.R_reads' HO_7.out).2.2 x8_1 p280 q280
            (try rw [← Nbq8.out] at hx280_0)
            cases e280
            replace p280 := eq_true p280
            replace q280 := eq_true q280
            go_wp2
            go_ret
            exact ⟨by first | rfl | (simp [errW_none, errW_some] <;> rfl) | (simp [*, errW_none, errW_some] <;> rfl), by repeat (first | (with_reducible first | exact HB.out | apply below_alloc | apply pw_below_drewN | apply below_drew1) | exact HB.out)⟩
        · rw [if_neg c7] at H
          exact absurd H (by simp)
      · rw [if_neg c6] at H
        have c6b0 : decide (x8_1 < (t277.length : Int)) = false := decide_eq_false c6
        clear c6
        replace H := Option.bind_eq_some_iff.mp H
        obtain ⟨t281, A120, H⟩ := H
        replace H : (some t281) = some r := H
        have A12 := Aside0.mk A120
        clear A120
        obtain rfl := Option.some.inj H
        obtain ⟨Ao13, co13, eo13⟩ := Kd.R_slice HO_7.out
        subst eo13
        go_wp2_with (first | ((with_reducible refine gate_callee (f := 40) rfl ?_); refine goesL_ (some 27) rfl rfl Try.func40 (by kernel_rfl) rfl #[.int .i64 a0, .int .i64 a1, .slice A2 l2.length c2] rfl (by (try simp only [List.map_toArray, List.map_cons, List.map_nil]); first | done | rfl | (simp only [List.length_drop, List.length_take]; rfl)) ?_; (with_reducible refine (spec_l14Fits.calls k1 a0 a1 _ _ l2 t281 _ ?side1 ?side2 A12.out).mono ?_); (case side1 => repeat (first | exact (Kd.C_below HR2.out HB.out) | (with_reducible refine Kd.C_alloc ?_ _) | (with_reducible refine Kd.C_drewN ?_ _) | (with_reducible refine Kd.C_drew ?_))); (case side2 => exact HC2.out); rintro e w14 ⟨rfl, hb⟩; refine ⟨_, rfl, ?_⟩; have n0_ := Aside0.mk (Kd.R_below (by (with_reducible repeat (first | apply Kd.R_alloc | apply Kd.R_drewN | apply Kd.R_drew)); exact HO_7.out) hb); have n1_ := Aside0.mk (below_step (by repeat (first | (with_reducible first | exact HB.out | apply below_alloc | apply pw_below_drewN | apply below_drew1) | exact HB.out)) hb); clear HO_7; clear HB; have HO_7 := n0_; have HB := n1_; clear n0_ n1_; (try clear hb); (try clear hb2); (try clear hk); (try clear hi)))
        go_ret
        exact ⟨by first | rfl | (simp [errW_none, errW_some] <;> rfl) | (simp [*, errW_none, errW_some] <;> rfl), by repeat (first | (with_reducible first | exact HB.out | apply below_alloc | apply pw_below_drewN | apply below_drew1) | exact HB.out)⟩

-- LIB p14
theorem l1InP_eq (n a b : Int) : spec_l1In.f n a b = some (decide (a ≤ n) && decide (n ≤ b)) := by
  unfold spec_l1In.f
  by_cases h : n ≥ a
  · rw [if_pos h, decide_eq_true (show a ≤ n from h), Bool.true_and]
  · rw [if_neg h, decide_eq_false (show ¬ a ≤ n from h), Bool.false_and]
theorem spulses_at (l : List S35) (hl : l.length ≤ 9223372036854775807) (d : Nat) : ∀ (k i : Nat), 1 ≤ i → i + d = l.length → d < k → spec_PulsesValid.l0 k l (i : Int) = some ((l.drop i).all pulseB && nondec (l.drop (i - 1)) && decide (l.length ≤ 60)) := by
  induction d with
  | zero =>
    intro k i h1 h2 hk
    obtain ⟨k, rfl⟩ : ∃ m, k = m + 1 := ⟨k - 1, by omega⟩
    simp only [spec_PulsesValid.l0]
    have e1 : l.drop i = [] := by rw [show i = l.length by omega, List.drop_length]
    have e2 : l.drop (i - 1 + 1) = [] := by rw [show i - 1 + 1 = l.length by omega, List.drop_length]
    have e3 : ((l.length : Int) ≤ 60) = (l.length ≤ 60) := by apply propext; omega
    rw [if_neg (by omega), e1, List.drop_eq_getElem_cons (show i - 1 < l.length by omega), e2]
    simp [nondec, e3]
  | succ d ih =>
    intro k i h1 h2 hk
    obtain ⟨k, rfl⟩ : ∃ m, k = m + 1 := ⟨k - 1, by omega⟩
    have e1 : wrap64 ((i : Int) - 1) = ((i - 1 : Nat) : Int) := by unfold wrap64; omega
    have ih' := ih k (i + 1) (by omega) (by omega) (by omega)
    simp only [spec_PulsesValid.l0]
    rw [e1, wrap_succ (show i < l.length by omega) (by omega), if_pos (by omega), if_pos (by omega), if_pos (show (i : Int) > 0 by omega), if_pos (by omega), if_pos (by omega), ih', l1InP_eq, l1InP_eq]
    rw [rdP_get l i (by omega), rdP_get l (i - 1) (by omega), List.drop_eq_getElem_cons (show i - 1 < l.length by omega), show i - 1 + 1 = i by omega, List.drop_eq_getElem_cons (show i < l.length by omega), nondec, show i + 1 - 1 = i by omega, List.drop_eq_getElem_cons (show i < l.length by omega)]
    simp only [Option.bind_some, List.all_cons]
    have hp : pulseB l[i] = ((decide (0 ≤ l[i].f0) && decide (l[i].f0 ≤ 2000)) && (decide (1 ≤ l[i].f1) && decide (l[i].f1 ≤ 50))) := rfl
    rw [hp]
    cases c1 : (decide (0 ≤ l[i].f0) && decide (l[i].f0 ≤ 2000)) with
    | false => rw [if_neg (by decide)]; simp
    | true =>
      rw [if_pos rfl]
      cases c2 : (decide (1 ≤ l[i].f1) && decide (l[i].f1 ≤ 50)) with
      | false => rw [if_neg (by decide)]; simp
      | true =>
        rw [if_pos rfl]
        by_cases c : l[i - 1].f0 > l[i].f0
        · rw [if_pos c, decide_eq_false (show ¬ l[i - 1].f0 ≤ l[i].f0 by omega)]; simp
        · rw [if_neg c, decide_eq_true (show l[i - 1].f0 ≤ l[i].f0 by omega)]; simp
theorem spulses_eq (l : List S35) (hl : l.length ≤ 9223372036854775807) (k : Nat) (hk : l.length < k) : spec_PulsesValid.f k l = some (pvB l) := by
  unfold spec_PulsesValid.f pvB
  obtain ⟨k, rfl⟩ : ∃ m, k = m + 1 := ⟨k - 1, by omega⟩
  simp only [spec_PulsesValid.l0]
  match l, hl, hk with
  | [], _, _ => rfl
  | x :: t, hl, hk =>
    have h1 := spulses_at (x :: t) hl t.length k 1 (by omega) (by simp; omega) (by simp at hk; omega)
    have hx : rd_T35 (x :: t) 0 = x := rfl
    rw [if_pos (by simp only [List.length_cons]; omega), if_pos (by omega), l1InP_eq, l1InP_eq, hx]
    simp only [Option.bind_some, List.all_cons]
    have hp : pulseB x = ((decide (0 ≤ x.f0) && decide (x.f0 ≤ 2000)) && (decide (1 ≤ x.f1) && decide (x.f1 ≤ 50))) := rfl
    rw [hp]
    cases c1 : (decide (0 ≤ x.f0) && decide (x.f0 ≤ 2000)) with
    | false => rw [if_neg (by decide)]; simp
    | true =>
      rw [if_pos rfl]
      cases c2 : (decide (1 ≤ x.f1) && decide (x.f1 ≤ 50)) with
      | false => rw [if_neg (by decide)]; simp
      | true =>
        rw [if_pos rfl, if_neg (by decide), wrap_eq (by decide) (by decide)]
        refine Eq.trans h1 ?_
        simp only [List.drop_succ_cons, List.drop_zero, Nat.sub_self, Bool.true_and]
theorem sfits_eq (r b : Int) (l : List S35) (hl : l.length ≤ 9223372036854775807) (k : Nat) (hk : l.length < k) : spec_l14Fits.f k r b l = some (fitsB r b l) := by
  unfold spec_l14Fits.f fitsB
  rw [l1InP_eq, l1InP_eq, spulses_eq l hl k hk]
  simp only [Option.bind_some]
  cases (decide (1 ≤ r) && decide (r ≤ 20)) <;> cases (decide (1 ≤ b) && decide (b ≤ 100)) <;> cases pvB l <;> rfl
theorem spol_at (r b : Int) (l : List S35) (hl : l.length ≤ 100000) (d : Nat) : ∀ (k i : Nat) (out : List Bool) (T a : Int), i + d = l.length → d < k → out.length ≤ i → spec_PolicePulses.l0 k r b l out T a (i : Int) = some (out ++ polL r b T a (l.drop i)) := by
  induction d with
  | zero =>
    intro k i out T a h2 hk ho
    obtain ⟨k, rfl⟩ : ∃ m, k = m + 1 := ⟨k - 1, by omega⟩
    simp only [spec_PolicePulses.l0]
    rw [if_neg (by omega), show i = l.length by omega, List.drop_length]
    simp [polL]
  | succ d ih =>
    intro k i out T a h2 hk ho
    obtain ⟨k, rfl⟩ : ∃ m, k = m + 1 := ⟨k - 1, by omega⟩
    simp only [spec_PolicePulses.l0]
    have hu : mn b (wrap64 (T + wrap64 (r * wrap64 (l[i].f0 - a)))) = untilT r b T a l[i].f0 := rfl
    rw [if_pos (by omega), if_pos (by omega), rdP_get l i (by omega), wrap_succ (show i < l.length by omega) (by omega), List.drop_eq_getElem_cons (show i < l.length by omega), polL, hu]
    have hok : takeOk r b T a l[i].f0 l[i].f1 = decide (l[i].f1 ≤ untilT r b T a l[i].f0) := rfl
    have hT : takeT r b T a l[i].f0 l[i].f1 = if l[i].f1 ≤ untilT r b T a l[i].f0 then wrap64 (untilT r b T a l[i].f0 - l[i].f1) else untilT r b T a l[i].f0 := rfl
    rw [hok, hT]
    by_cases c : l[i].f1 ≤ untilT r b T a l[i].f0
    · rw [if_pos c, if_pos (by omega), ih k (i + 1) _ _ _ (by omega) (by omega) (by simp; omega), if_pos c]
      simp
    · rw [if_neg c, if_pos (by omega), ih k (i + 1) _ _ _ (by omega) (by omega) (by simp; omega), if_neg c]
      simp
theorem spol_eq (r b : Int) (l : List S35) (hl : l.length ≤ 9223372036854775807) (k : Nat) (hk : l.length < k) : spec_PolicePulses.f k r b l = some (polF r b l) := by
  unfold spec_PolicePulses.f polF
  rw [Option.bind_some, sfits_eq r b l (by omega) k hk, Option.bind_some]
  cases hf : fitsB r b l with
  | false => rw [if_neg (by decide), if_neg (by decide)]
  | true =>
    obtain ⟨_, f2, _⟩ := fitsB_facts hf
    rw [if_pos rfl, if_pos rfl]
    exact (spol_at r b l (by omega) l.length k 0 [] b 0 (by omega) (by omega) (by simp)).trans (by rw [List.drop_zero, List.nil_append])
theorem polL_len (r b : Int) (l : List S35) : ∀ T a, (polL r b T a l).length = l.length := by
  induction l with
  | nil => intro T a; rfl
  | cons p l ih => intro T a; simp [polL, ih]
theorem sconf_at (r b : Int) (l : List S35) (hl : l.length ≤ 100000) (k0 : Nat) (hk0 : l.length < k0) (o : List Bool) (ho : o.length ≤ 100000) (d : Nat) : ∀ (k i : Nat), i + d = o.length → l.length + d + 1 < k → spec_Conforms.l0 k r b l o (i : Int) = some ((o.drop i).all id && fitsB r b l) := by
  induction d with
  | zero =>
    intro k i h2 hk
    obtain ⟨k, rfl⟩ : ∃ m, k = m + 1 := ⟨k - 1, by omega⟩
    simp only [spec_Conforms.l0]
    rw [if_neg (by omega), show i = o.length by omega, List.drop_length, sfits_eq r b l (by omega) k (by omega)]
    simp
  | succ d ih =>
    intro k i h2 hk
    obtain ⟨k, rfl⟩ : ∃ m, k = m + 1 := ⟨k - 1, by omega⟩
    have r1 : rdOf false o (i : Int) = o[i] := by simp [rdOf, List.getD_eq_getElem?_getD, show i < o.length by omega]
    simp only [spec_Conforms.l0]
    rw [if_pos (by omega), if_pos (by omega), r1, wrap_succ (show i < o.length by omega) (by omega), List.drop_eq_getElem_cons (show i < o.length by omega), List.all_cons]
    cases hc : o[i] with
    | false => rw [if_neg (by decide)]; simp
    | true => rw [if_pos rfl, ih k (i + 1) (by omega) (by omega)]; simp
theorem sconf_eq (r b : Int) (l : List S35) (hl : l.length ≤ 9223372036854775807) (k : Nat) (hk : 2 * l.length + 1 < k) : spec_Conforms.f k r b l = some (confF r b l) := by
  unfold spec_Conforms.f confF
  rw [spol_eq r b l (by omega) k (by omega), Option.bind_some]
  have hlen : (polF r b l).length ≤ l.length := by unfold polF; split <;> simp [polL_len]
  cases hf : fitsB r b l with
  | false =>
    have e : polF r b l = [] := by unfold polF; rw [hf, if_neg (by decide)]
    obtain ⟨k, rfl⟩ : ∃ m, k = m + 1 := ⟨k - 1, by omega⟩
    rw [e]
    simp only [spec_Conforms.l0]
    rw [if_neg (by simp), sfits_eq r b l (by omega) k (by omega), Option.bind_some, hf]
    rfl
  | true =>
  obtain ⟨_, f2, _⟩ := fitsB_facts hf
  rw [← hf]
  exact (sconf_at r b l (by omega) k (by omega) (polF r b l) (by omega) (polF r b l).length k 0 (by omega) (by omega)).trans (by rw [List.drop_zero, Bool.and_comm])
theorem iconf_eq (r b : Int) (l : List S35) : impl_Conforms.f r b l = some (confF r b l) := rfl
theorem ipol_eq (r b : Int) (l : List S35) : impl_PolicePulses.f r b l = some (polF r b l) := rfl

end Go.Proofs.Ytfbicfnokibobaa.PAll

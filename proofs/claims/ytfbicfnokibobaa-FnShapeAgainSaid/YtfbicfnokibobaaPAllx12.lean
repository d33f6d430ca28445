/- Proved here: contracts of functions of the given program, or lemmas on them, for the laws of this seat. Written by xprint.py, a program of this session, on the ground of the kit's print; parts by hand: wip/x/ext. -/
import Derived.Test.YtfbicfnokibobaaPAllx0
import Derived.Test.YtfbicfnokibobaaPAllx2
import Derived.Test.YtfbicfnokibobaaPAllx8
import Derived.Test.YtfbicfnokibobaaPAllx16
namespace Go.Proofs.Ytfbicfnokibobaa.PAll
open Go.RowKit Go.Proofs.YtfbicfnokibobaaW.PrintWords Go.Proofs.YtfbicfnokibobaaW.PrintLast Go.Proofs.YtfbicfnokibobaaW.PrintMore
attribute [local go_sem] max2_int min2_int max_two min_two max_three min_three max_four min_four   -- for this text's walks alone
set_option linter.unusedVariables false
set_option linter.unusedSimpArgs false

/-! ### spec_ShapePulses: function 38 -/
mutual
def spec_ShapePulses.l0 : Nat → Int → Int → List (S35) → List Int → Int → Option (List Int)
  | 0, _, _, _, _, _ => none
  | k + 1, x0, x1, x2, x7, x8 => if x8 < (x2.length : Int) then (if 0 ≤ x8 then (if ((rd_T35 x2 x8).f1) > x1 then (some x7) else (spec_ShapePulses.l0 k x0 x1 x2 x7 (wrap64 (x8 + 1)))) else (none)) else ((spec_l14Fits.f k x0 x1 x2).bind fun t399 => (if t399 = true then (spec_ShapePulses.l1 k x0 x1 x2 x7 x1 0 0) else (some x7)))
def spec_ShapePulses.l1 : Nat → Int → Int → List (S35) → List Int → Int → Int → Int → Option (List Int)
  | 0, _, _, _, _, _, _, _ => none
  | k + 1, x0, x1, x2, x7, x9, x10, x11 => if x11 < (x2.length : Int) then (if 0 ≤ x11 then (spec_ShapePulses.l2 k x0 x1 x2 x7 (mn x1 (wrap64 (x9 + (wrap64 (x0 * (wrap64 ((mx x10 ((rd_T35 x2 x11).f0)) - x10))))))) x11 (mx x10 ((rd_T35 x2 x11).f0))) else (none)) else (some x7)
def spec_ShapePulses.l2 : Nat → Int → Int → List (S35) → List Int → Int → Int → Int → Option (List Int)
  | 0, _, _, _, _, _, _, _ => none
  | k + 1, x0, x1, x2, x7, x9, x11, x12 => if 0 ≤ x11 then (if x11 < (x2.length : Int) then (if x9 < ((rd_T35 x2 x11).f1) then (spec_ShapePulses.l2 k x0 x1 x2 x7 (mn x1 (wrap64 (x9 + x0))) x11 (wrap64 (x12 + 1))) else (if x7.length < 17592186044416 then (spec_ShapePulses.l1 k x0 x1 x2 (x7 ++ [x12]) (wrap64 (x9 - ((rd_T35 x2 x11).f1))) x12 (wrap64 (x11 + 1))) else (none))) else (none)) else (none)
end
def spec_ShapePulses.f (k : Nat) (a0 : Int) (a1 : Int) (l2 : List (S35)) : Option (List Int) := spec_ShapePulses.l0 k a0 a1 l2 (([] : List Int)) 0
theorem spec_ShapePulses.mono_l : ∀ k, (∀ y0 y1 y2 y3 y4, LeO (spec_ShapePulses.l0 k y0 y1 y2 y3 y4) (spec_ShapePulses.l0 (k + 1) y0 y1 y2 y3 y4)) ∧ (∀ y0 y1 y2 y3 y4 y5 y6, LeO (spec_ShapePulses.l1 k y0 y1 y2 y3 y4 y5 y6) (spec_ShapePulses.l1 (k + 1) y0 y1 y2 y3 y4 y5 y6)) ∧ (∀ y0 y1 y2 y3 y4 y5 y6, LeO (spec_ShapePulses.l2 k y0 y1 y2 y3 y4 y5 y6) (spec_ShapePulses.l2 (k + 1) y0 y1 y2 y3 y4 y5 y6))
  | 0 => ⟨fun _ _ _ _ _ r h => by simp [spec_ShapePulses.l0] at h, fun _ _ _ _ _ _ _ r h => by simp [spec_ShapePulses.l1] at h, fun _ _ _ _ _ _ _ r h => by simp [spec_ShapePulses.l2] at h⟩
  | k + 1 => by
    obtain ⟨ih0, ih1, ih2⟩ := spec_ShapePulses.mono_l k
    refine ⟨?_, ?_, ?_⟩
    · intro y0 y1 y2 y3 y4
      unfold spec_ShapePulses.l0
      repeat' first
      | (with_reducible exact ih0 _ _ _ _ _)
      | (with_reducible exact ih1 _ _ _ _ _ _ _)
      | (with_reducible exact ih2 _ _ _ _ _ _ _)
      | (with_reducible exact spec_l14Fits.mono _ _ _ _)
      | (with_reducible exact LeO.refl _)
      | (with_reducible exact LeO.none _)
      | (with_reducible refine LeO.ite ?_ ?_)
      | (with_reducible refine LeO.bind ?_ (fun _ => ?_))
      | exact ih0 _ _ _ _ _
      | exact ih1 _ _ _ _ _ _ _
      | exact ih2 _ _ _ _ _ _ _
      | exact spec_l14Fits.mono _ _ _ _
      | exact LeO.none _
      | refine LeO.ite ?_ ?_
      | refine LeO.bind ?_ (fun _ => ?_)
    · intro y0 y1 y2 y3 y4 y5 y6
      unfold spec_ShapePulses.l1
      repeat' first
      | (with_reducible exact ih0 _ _ _ _ _)
      | (with_reducible exact ih1 _ _ _ _ _ _ _)
      | (with_reducible exact ih2 _ _ _ _ _ _ _)
      | (with_reducible exact spec_l14Fits.mono _ _ _ _)
      | (with_reducible exact LeO.refl _)
      | (with_reducible exact LeO.none _)
      | (with_reducible refine LeO.ite ?_ ?_)
      | (with_reducible refine LeO.bind ?_ (fun _ => ?_))
      | exact ih0 _ _ _ _ _
      | exact ih1 _ _ _ _ _ _ _
      | exact ih2 _ _ _ _ _ _ _
      | exact spec_l14Fits.mono _ _ _ _
      | exact LeO.none _
      | refine LeO.ite ?_ ?_
      | refine LeO.bind ?_ (fun _ => ?_)
    · intro y0 y1 y2 y3 y4 y5 y6
      unfold spec_ShapePulses.l2
      repeat' first
      | (with_reducible exact ih0 _ _ _ _ _)
      | (with_reducible exact ih1 _ _ _ _ _ _ _)
      | (with_reducible exact ih2 _ _ _ _ _ _ _)
      | (with_reducible exact spec_l14Fits.mono _ _ _ _)
      | (with_reducible exact LeO.refl _)
      | (with_reducible exact LeO.none _)
      | (with_reducible refine LeO.ite ?_ ?_)
      | (with_reducible refine LeO.bind ?_ (fun _ => ?_))
      | exact ih0 _ _ _ _ _
      | exact ih1 _ _ _ _ _ _ _
      | exact ih2 _ _ _ _ _ _ _
      | exact spec_l14Fits.mono _ _ _ _
      | exact LeO.none _
      | refine LeO.ite ?_ ?_
      | refine LeO.bind ?_ (fun _ => ?_)
theorem spec_ShapePulses.mono : ∀ a0 a1 a2 k, LeO (spec_ShapePulses.f k a0 a1 a2) (spec_ShapePulses.f (k + 1) a0 a1 a2) := by
  intro a0 a1 a2 k
  obtain ⟨ih0, ih1, ih2⟩ := spec_ShapePulses.mono_l k
  unfold spec_ShapePulses.f
  repeat' first
      | (with_reducible exact ih0 _ _ _ _ _)
      | (with_reducible exact ih1 _ _ _ _ _ _ _)
      | (with_reducible exact ih2 _ _ _ _ _ _ _)
      | (with_reducible exact spec_l14Fits.mono _ _ _ _)
      | (with_reducible exact LeO.refl _)
      | (with_reducible exact LeO.none _)
      | (with_reducible refine LeO.ite ?_ ?_)
      | (with_reducible refine LeO.bind ?_ (fun _ => ?_))
      | exact ih0 _ _ _ _ _
      | exact ih1 _ _ _ _ _ _ _
      | exact ih2 _ _ _ _ _ _ _
      | exact spec_l14Fits.mono _ _ _ _
      | exact LeO.none _
      | refine LeO.ite ?_ ?_
      | refine LeO.bind ?_ (fun _ => ?_)
set_option maxHeartbeats 8000000 in
set_option maxRecDepth 100000 in
theorem spec_ShapePulses.calls (k : Nat) (a0 : Int) (a1 : Int) (A2 : Option Addr) (c2 : Nat) (l2 : List (S35)) (r : List Int) (w : World) (hr2 : Kd.C k35 w A2 l2.length l2) (hc2 : l2.length ≤ c2) (h : spec_ShapePulses.f k a0 a1 l2 = some r) :
    Calls Try.prog 38 #[.int .i64 a0, .int .i64 a1, .slice A2 l2.length c2] w fun e w' => ∃ v0_ : Value, e = .returned (v0_) ∧ Kd.R (Kd.int .i64) 3 w' w.heap.size (fun _ => True) v0_ r ∧ Below w.heap.size w w' := by
  have HR2 := Aside0.mk hr2
  have HC2 := Aside0.mk hc2
  clear hr2 hc2
  have HB := Aside0.mk (Below.refl w.heap.size w)
  have H : (spec_ShapePulses.l0 k a0 a1 l2 (([] : List Int)) 0) = some r := h
  clear h
  obtain ⟨y395, hy395⟩ : ∃ y_ : List Int, y_ = (([] : List Int)) := ⟨_, rfl⟩
  replace H : (spec_ShapePulses.l0 k a0 a1 l2 y395 0) = some r := by first | (rw [hy395]; with_reducible exact H) | (have H2_ := (Option.bind_some _ _).symm.trans H; rw [hy395]; with_reducible exact H2_) | (have H2_ := (Option.bind_some _ _).symm.trans H; with_reducible exact H2_) | with_reducible exact H | (rw [hy395]; exact H) | exact H
  have Ny395 := Aside0.mk hy395
  clear hy395
  have H' := Aside0.mk H
  clear H
  go_enter Try.func38, Try.ntmps38
  go_wp2_with (first | ((with_reducible refine gate_dst (N := 13) rfl ?_); refine Kd.R_lit (Kd.int .i64) _ 3 ?hg (N := 13) ?hd (xs := ([] : List Int)) (inner := []) (ok := fun _ => True) (okp := fun _ => True) ?hr ?hp (fun _ hk => hk) trivial (Below.refl _ _) (Nat.le_refl _) (by simp) ?_; (case hd => rfl); (case hg => rfl); (case hr => first | (go_simp; done) | (go_simp; rfl)); (case hp => exact (Reps.none _ _)); intro v396 w4 ho5 hb hg_ hnew_; clear hg_ hnew_; (first | rw [← Ny395.out] at ho5 | (simp only [Int.reduceToNat] at ho5; rw [← Ny395.out] at ho5)); have n0_ := Aside0.mk (Kd.R_lower ho5 (below_size (by repeat (first | (with_reducible first | exact HB.out | apply below_alloc | apply pw_below_drewN | apply below_drew1) | exact HB.out)))); have n1_ := Aside0.mk (below_step (by repeat (first | (with_reducible first | exact HB.out | apply below_alloc | apply pw_below_drewN | apply below_drew1) | exact HB.out)) hb); clear HB; have HO397 := n0_; have HB := n1_; clear n0_ n1_; clear hb ho5))
  go_loopg [8] k (fun kq v8 w' => ∃ (x8_1 : Int), v8 = .int .i64 x8_1 ∧ Aside0 (spec_ShapePulses.l0 kq a0 a1 l2 y395 x8_1 = some r) ∧ Aside0 (kq ≤ k) ∧ Aside0 (Kd.R (Kd.int .i64) 3 w' w.heap.size (fun _ => True) v396 y395) ∧ Aside0 (Below w.heap.size w w'))
  case atStart => exact ⟨(0), (by first | rfl | (simp; done) | (simp [*]; done)), H', ⟨Nat.le_refl _⟩, ⟨by (with_reducible repeat (first | apply Kd.R_alloc | apply Kd.R_drewN | apply Kd.R_drew)); exact HO397.out⟩, ⟨by repeat (first | (with_reducible first | exact HB.out | apply below_alloc | apply pw_below_drewN | apply below_drew1) | exact HB.out)⟩⟩
  case round =>
    clear H'
    try clear c2
    try clear p2
    try clear c3
    obtain ⟨x8_1, rfl, HA, HK1, HO_7, HB⟩ := hrel
    cases gk with
    | zero => exact absurd HA.out (by simp [spec_ShapePulses.l0])
    | succ k1 =>
      have H := HA.out
      clear HA
      simp only [spec_ShapePulses.l0] at H
      by_cases c6 : x8_1 < (l2.length : Int)
      · rw [if_pos c6] at H
        have c6b0 : decide (x8_1 < (l2.length : Int)) = true := decide_eq_true c6
        clear c6
        by_cases c7 : 0 ≤ x8_1
        · rw [if_pos c7] at H
          have c7b0 : decide (0 ≤ x8_1) = true := decide_eq_true c7
          clear c7
          by_cases c8 : ((rd_T35 l2 x8_1).f1) > a1
          · rw [if_pos c8] at H
            have c8b0 : decide (a1 < ((rd_T35 l2 x8_1).f1)) = true := decide_eq_true c8
            clear c8
            obtain rfl := Option.some.inj H
            have p398 : 0 ≤ (x8_1 : Int) := of_decide_eq_true (by first | (with_reducible assumption) | assumption)
            have q398 : x8_1 < (l2.length : Int) := of_decide_eq_true (by first | (with_reducible assumption) | assumption)
            obtain ⟨ad398, e398, hx398_0, hx398_1⟩ := at_T35 HR2.out x8_1 p398 q398
            cases e398
            replace hx398_0 := (HB.out.cell (World.block_lt_of_cell? w _ hx398_0)).trans hx398_0
            replace hx398_1 := (HB.out.cell (World.block_lt_of_cell? w _ hx398_1)).trans hx398_1
            replace p398 := eq_true p398
            replace q398 := eq_true q398
            go_wp2
            go_ret
            exact ⟨_, by first | rfl | (simp [errW_none, errW_some] <;> rfl) | (simp [*, errW_none, errW_some] <;> rfl), by (with_reducible repeat (first | apply Kd.R_alloc | apply Kd.R_drewN | apply Kd.R_drew)); exact HO_7.out, by repeat (first | (with_reducible first | exact HB.out | apply below_alloc | apply pw_below_drewN | apply below_drew1) | exact HB.out)⟩
          · rw [if_neg c8] at H
            have c8b0 : decide (a1 < ((rd_T35 l2 x8_1).f1)) = false := decide_eq_false c8
            clear c8
            have H' := Aside0.mk H
            clear H
            have p398 : 0 ≤ (x8_1 : Int) := of_decide_eq_true (by first | (with_reducible assumption) | assumption)
            have q398 : x8_1 < (l2.length : Int) := of_decide_eq_true (by first | (with_reducible assumption) | assumption)
            obtain ⟨ad398, e398, hx398_0, hx398_1⟩ := at_T35 HR2.out x8_1 p398 q398
            cases e398
            replace hx398_0 := (HB.out.cell (World.block_lt_of_cell? w _ hx398_0)).trans hx398_0
            replace hx398_1 := (HB.out.cell (World.block_lt_of_cell? w _ hx398_1)).trans hx398_1
            replace p398 := eq_true p398
            replace q398 := eq_true q398
            go_wp2
            go_roundg k1
            case measure => have := HK1.out; omega
            case rel => exact ⟨(wrap64 (x8_1 + 1)), (by first | rfl | (simp; done) | (simp [*]; done)), H', ⟨by have := HK1.out; omega⟩, ⟨by (with_reducible repeat (first | apply Kd.R_alloc | apply Kd.R_drewN | apply Kd.R_drew)); exact HO_7.out⟩, ⟨by repeat (first | (with_reducible first | exact HB.out | apply below_alloc | apply pw_below_drewN | apply below_drew1) | exact HB.out)⟩⟩
        · rw [if_neg c7] at H
          exact absurd H (by simp)
      · rw [if_neg c6] at H
        have c6b0 : decide (x8_1 < (l2.length : Int)) = false := decide_eq_false c6
        clear c6
        replace H := Option.bind_eq_some_iff.mp H
        obtain ⟨t399, A90, H⟩ := H
        replace H : (if t399 = true then (spec_ShapePulses.l1 k1 a0 a1 l2 y395 a1 0 0) else (some y395)) = some r := H
        have A9 := Aside0.mk A90
        clear A90
        by_cases c10 : t399 = true
        · subst c10
          have H1 : (spec_ShapePulses.l1 k1 a0 a1 l2 y395 a1 0 0) = some r := by rw [if_pos rfl] at H; exact H
          clear H
          have H := H1
          clear H1
          have H' := Aside0.mk H
          clear H
          go_wp2_with (first | ((with_reducible refine gate_callee (f := 40) rfl ?_); refine goesL_ (some 31) rfl rfl Try.func40 (by kernel_rfl) rfl #[.int .i64 a0, .int .i64 a1, .slice A2 l2.length c2] rfl (by (try simp only [List.map_toArray, List.map_cons, List.map_nil]); first | done | rfl | (simp only [List.length_drop, List.length_take]; rfl)) ?_; (with_reducible refine (spec_l14Fits.calls k1 a0 a1 _ _ l2 true _ ?side1 ?side2 A9.out).mono ?_); (case side1 => repeat (first | exact (Kd.C_below HR2.out HB.out) | (with_reducible refine Kd.C_alloc ?_ _) | (with_reducible refine Kd.C_drewN ?_ _) | (with_reducible refine Kd.C_drew ?_))); (case side2 => exact HC2.out); rintro e w11 ⟨rfl, hb⟩; refine ⟨_, rfl, ?_⟩; have n0_ := Aside0.mk (Kd.R_below (by (with_reducible repeat (first | apply Kd.R_alloc | apply Kd.R_drewN | apply Kd.R_drew)); exact HO_7.out) hb); have n1_ := Aside0.mk (below_step (by repeat (first | (with_reducible first | exact HB.out | apply below_alloc | apply pw_below_drewN | apply below_drew1) | exact HB.out)) hb); clear HO_7; clear HB; have HO_7 := n0_; have HB := n1_; clear n0_ n1_; (try clear hb); (try clear hb2); (try clear hk); (try clear hi)))
          go_loopg [7, 9, 10, 11] k1 (fun kq v7 v9 v10 v11 w' => ∃ (x7_2 : List Int) (x9_2 : Int) (x10_2 : Int) (x11_2 : Int), v9 = .int .i64 x9_2 ∧ v10 = .int .i64 x10_2 ∧ v11 = .int .i64 x11_2 ∧ Aside0 (spec_ShapePulses.l1 kq a0 a1 l2 x7_2 x9_2 x10_2 x11_2 = some r) ∧ Aside0 (kq ≤ k1) ∧ Aside0 (Kd.R (Kd.int .i64) 3 w' w.heap.size (fun _ => True) v7 x7_2) ∧ Aside0 (Below w.heap.size w w'))
          case atStart => exact ⟨(y395), (a1), (0), (0), (by first | rfl | (simp; done) | (simp [*]; done)), (by first | rfl | (simp; done) | (simp [*]; done)), (by first | rfl | (simp; done) | (simp [*]; done)), H', ⟨Nat.le_refl _⟩, ⟨by (with_reducible repeat (first | apply Kd.R_alloc | apply Kd.R_drewN | apply Kd.R_drew)); exact HO_7.out⟩, ⟨by repeat (first | (with_reducible first | exact HB.out | apply below_alloc | apply pw_below_drewN | apply below_drew1) | exact HB.out)⟩⟩
          case round =>
            clear H'
            try clear c1
            try clear c2
            try clear p2
            try clear c3
            try clear p3
            try clear q3
            try clear hx3
            try clear c4
            try clear c6
            try clear c6b0
            try clear p6
            try clear c7
            try clear c7b0
            try clear c8
            try clear c8b0
            try clear c10
            try clear hx398_0
            try clear hx398_1
            try clear p2
            try clear p398
            try clear q398
            obtain ⟨x7_2, x9_2, x10_2, x11_2, rfl, rfl, rfl, HA, HK2, HO_7, HB⟩ := hrel
            cases gk with
            | zero => exact absurd HA.out (by simp [spec_ShapePulses.l1])
            | succ k2 =>
              have H := HA.out
              clear HA
              simp only [spec_ShapePulses.l1] at H
              by_cases c12 : x11_2 < (l2.length : Int)
              · rw [if_pos c12] at H
                have c12b0 : decide (x11_2 < (l2.length : Int)) = true := decide_eq_true c12
                clear c12
                by_cases c13 : 0 ≤ x11_2
                · rw [if_pos c13] at H
                  have c13b0 : decide (0 ≤ x11_2) = true := decide_eq_true c13
                  clear c13
                  obtain ⟨ji14, hji14⟩ : ∃ j_ : Int, (mx x10_2 ((rd_T35 l2 x11_2).f0)) = j_ := ⟨_, rfl⟩
                  replace H : (spec_ShapePulses.l2 k2 a0 a1 l2 x7_2 (mn a1 (wrap64 (x9_2 + (wrap64 (a0 * (wrap64 ((ji14) - x10_2))))))) x11_2 ji14) = some r := by first | (rw [hji14] at H; exact H) | (simp only [hji14] at H ⊢; exact H)
                  have hji14_ : (if x10_2 < ((rd_T35 l2 x11_2).f0) then ((rd_T35 l2 x11_2).f0) else x10_2) = ji14 := hji14
                  obtain ⟨ji15, hji15⟩ : ∃ j_ : Int, (mn a1 (wrap64 (x9_2 + (wrap64 (a0 * (wrap64 ((ji14) - x10_2))))))) = j_ := ⟨_, rfl⟩
                  replace H : (spec_ShapePulses.l2 k2 a0 a1 l2 x7_2 ji15 x11_2 ji14) = some r := by first | (rw [hji15] at H; exact H) | (simp only [hji15] at H ⊢; exact H)
                  have hji15_ : (if (wrap64 (x9_2 + (wrap64 (a0 * (wrap64 ((ji14) - x10_2)))))) < a1 then (wrap64 (x9_2 + (wrap64 (a0 * (wrap64 ((ji14) - x10_2)))))) else a1) = ji15 := hji15
                  have H' := Aside0.mk H
                  clear H
                  have p400 : 0 ≤ (x11_2 : Int) := of_decide_eq_true (by first | (with_reducible assumption) | assumption)
                  have q400 : x11_2 < (l2.length : Int) := of_decide_eq_true (by first | (with_reducible assumption) | assumption)
                  obtain ⟨ad400, e400, hx400_0, hx400_1⟩ := at_T35 HR2.out x11_2 p400 q400
                  cases e400
                  replace hx400_0 := (HB.out.cell (World.block_lt_of_cell? w _ hx400_0)).trans hx400_0
                  replace hx400_1 := (HB.out.cell (World.block_lt_of_cell? w _ hx400_1)).trans hx400_1
                  replace p400 := eq_true p400
                  replace q400 := eq_true q400
                  go_wp2
                  go_loopg [9, 12] k2 (fun kq v9 v12 w' => ∃ (x9_3 : Int) (x12_3 : Int), v9 = .int .i64 x9_3 ∧ v12 = .int .i64 x12_3 ∧ Aside0 (spec_ShapePulses.l2 kq a0 a1 l2 x7_2 x9_3 x11_2 x12_3 = some r) ∧ Aside0 (kq ≤ k2) ∧ Aside0 (Kd.R (Kd.int .i64) 3 w' w.heap.size (fun _ => True) u7 x7_2) ∧ Aside0 (Below w.heap.size w w'))
                  case atStart => exact ⟨(ji15), (ji14), (by first | rfl | (simp; done) | (simp only [← hji15] <;> (first | rfl | simp)) | (simp [*]; done)), (by first | rfl | (simp; done) | (simp only [← hji14] <;> (first | rfl | simp)) | (simp [*]; done)), H', ⟨Nat.le_refl _⟩, ⟨by (with_reducible repeat (first | apply Kd.R_alloc | apply Kd.R_drewN | apply Kd.R_drew)); exact HO_7.out⟩, ⟨by repeat (first | (with_reducible first | exact HB.out | apply below_alloc | apply pw_below_drewN | apply below_drew1) | exact HB.out)⟩⟩
                  case round =>
                    clear H'
                    try clear c1
                    try clear c2
                    try clear p2
                    try clear c3
                    try clear p3
                    try clear q3
                    try clear hx3
                    try clear c4
                    try clear p4
                    try clear q4
                    try clear hx4
                    try clear c6
                    try clear c6b0
                    try clear p6
                    try clear c7
                    try clear c7b0
                    try clear c8
                    try clear c8b0
                    try clear c10
                    try clear c12
                    try clear c12b0
                    try clear c13
                    try clear c13b0
                    try clear hx398_0
                    try clear hx398_1
                    try clear hx400_0
                    try clear hx400_1
                    try clear p2
                    try clear p3
                    try clear p398
                    try clear p400
                    try clear p6
                    try clear q3
                    try clear q398
                    try clear q400
                    obtain ⟨x9_3, x12_3, rfl, rfl, HA, HK3, HO_7, HB⟩ := hrel
                    cases gk with
                    | zero => exact absurd HA.out (by simp [spec_ShapePulses.l2])
                    | succ k3 =>
                      have H := HA.out
                      clear HA
                      simp only [spec_ShapePulses.l2] at H
                      by_cases c16 : 0 ≤ x11_2
                      · rw [if_pos c16] at H
                        have c16b0 : decide (0 ≤ x11_2) = true := decide_eq_true c16
                        clear c16
                        by_cases c17 : x11_2 < (l2.length : Int)
                        · rw [if_pos c17] at H
                          have c17b0 : decide (x11_2 < (l2.length : Int)) = true := decide_eq_true c17
                          clear c17
                          by_cases c18 : x9_3 < ((rd_T35 l2 x11_2).f1)
                          · rw [if_pos c18] at H
                            have c18b0 : decide (x9_3 < ((rd_T35 l2 x11_2).f1)) = true := decide_eq_true c18
                            clear c18
                            obtain ⟨ji19, hji19⟩ : ∃ j_ : Int, (mn a1 (wrap64 (x9_3 + a0))) = j_ := ⟨_, rfl⟩
                            replace H : (spec_ShapePulses.l2 k3 a0 a1 l2 x7_2 ji19 x11_2 (wrap64 (x12_3 + 1))) = some r := by first | (rw [hji19] at H; exact H) | (simp only [hji19] at H ⊢; exact H)
                            have hji19_ : (if (wrap64 (x9_3 + a0)) < a1 then (wrap64 (x9_3 + a0)) else a1) = ji19 := hji19
                            have H' := Aside0.mk H
                            clear H
                            have p401 : 0 ≤ (x11_2 : Int) := of_decide_eq_true (by first | (with_reducible assumption) | assumption)
                            have q401 : x11_2 < (l2.length : Int) := of_decide_eq_true (by first | (with_reducible assumption) | assumption)
                            obtain ⟨ad401, e401, hx401_0, hx401_1⟩ := at_T35 HR2.out x11_2 p401 q401
                            obtain rfl : ad400 = ad401 := (by injection e401)
                            replace hx401_0 := (HB.out.cell (World.block_lt_of_cell? w _ hx401_0)).trans hx401_0
                            replace hx401_1 := (HB.out.cell (World.block_lt_of_cell? w _ hx401_1)).trans hx401_1
                            replace p401 := eq_true p401
                            replace q401 := eq_true q401
                            go_wp2
                            go_roundg k3
                            case measure => have := HK1.out; have := HK2.out; have := HK3.out; omega
                            case rel => exact ⟨(ji19), (wrap64 (x12_3 + 1)), (by first | rfl | (simp; done) | (simp only [← hji19] <;> (first | rfl | simp)) | (simp [*]; done)), (by first | rfl | (simp; done) | (simp [*]; done)), H', ⟨by have := HK1.out; have := HK2.out; have := HK3.out; omega⟩, ⟨by (with_reducible repeat (first | apply Kd.R_alloc | apply Kd.R_drewN | apply Kd.R_drew)); exact HO_7.out⟩, ⟨by repeat (first | (with_reducible first | exact HB.out | apply below_alloc | apply pw_below_drewN | apply below_drew1) | exact HB.out)⟩⟩
                          · rw [if_neg c18] at H
                            have c18b0 : decide (x9_3 < ((rd_T35 l2 x11_2).f1)) = false := decide_eq_false c18
                            clear c18
                            by_cases c20 : x7_2.length < 17592186044416
                            · rw [if_pos c20] at H
                              have LMc20 := Aside0.mk c20
                              clear c20
                              obtain ⟨y403, hy403⟩ : ∃ y_ : List Int, y_ = (x7_2 ++ [x12_3]) := ⟨_, rfl⟩
                              replace H : (spec_ShapePulses.l1 k3 a0 a1 l2 y403 (wrap64 (x9_3 - ((rd_T35 l2 x11_2).f1))) x12_3 (wrap64 (x11_2 + 1))) = some r := by first | (rw [hy403]; with_reducible exact H) | (have H2_ := (Option.bind_some _ _).symm.trans H; rw [hy403]; with_reducible exact H2_) | (have H2_ := (Option.bind_some _ _).symm.trans H; with_reducible exact H2_) | with_reducible exact H | (rw [hy403]; exact H) | exact H
                              have Ny403 := Aside0.mk hy403
                              clear hy403
                              have H' := Aside0.mk H
                              clear H
                              have p401 : 0 ≤ (x11_2 : Int) := of_decide_eq_true (by first | (with_reducible assumption) | assumption)
                              have q401 : x11_2 < (l2.length : Int) := of_decide_eq_true (by first | (with_reducible assumption) | assumption)
                              obtain ⟨ad401, e401, hx401_0, hx401_1⟩ := at_T35 HR2.out x11_2 p401 q401
                              obtain rfl : ad400 = ad401 := (by injection e401)
                              replace hx401_0 := (HB.out.cell (World.block_lt_of_cell? w _ hx401_0)).trans hx401_0
                              replace hx401_1 := (HB.out.cell (World.block_lt_of_cell? w _ hx401_1)).trans hx401_1
                              replace p401 := eq_true p401
                              replace q401 := eq_true q401
                              have p402 : 0 ≤ (x11_2 : Int) := of_decide_eq_true (by first | (with_reducible assumption) | assumption)
                              have q402 : x11_2 < (l2.length : Int) := of_decide_eq_true (by first | (with_reducible assumption) | assumption)
                              obtain ⟨ad402, e402, hx402_0, hx402_1⟩ := at_T35 HR2.out x11_2 p402 q402
                              obtain rfl : ad400 = ad402 := (by injection e402)
                              replace hx402_0 := (HB.out.cell (World.block_lt_of_cell? w _ hx402_0)).trans hx402_0
                              replace hx402_1 := (HB.out.cell (World.block_lt_of_cell? w _ hx402_1)).trans hx402_1
                              replace p402 := eq_true p402
                              replace q402 := eq_true q402
                              go_wp2_with (first | ((with_reducible refine gate_builtin (b := .append) (xs := #[.tmp 79, .tmp 81]) rfl ?_); at_builtin; refine Kd.R_append (Kd.int .i64) (w0 := w) w.heap.size rfl (.tmp 79) (.tmp 81) 49 3 (.int .i64 0) 8 rfl Try.underlying49 info3 rfl (by decide) (by omega) u7 x7_2 x12_3 [.int .i64 x12_3] (fun _ => True) (fun _ => False) rfl rfl ?aP (fun _ hk => hk.elim) ?aF ?aO ?aB ?aS ?aL ?_; (case aP => exact rfl); (case aB => exact (by repeat (first | (with_reducible first | exact HB.out | apply below_alloc | apply pw_below_drewN | apply below_drew1) | exact HB.out))); (case aF => exact (fun _ _ => trivial)); (case aO => exact (by (with_reducible repeat (first | apply Kd.R_alloc | apply Kd.R_drewN | apply Kd.R_drew)); exact HO_7.out)); (case aS => exact (below_size (by repeat (first | (with_reducible first | exact HB.out | apply below_alloc | apply pw_below_drewN | apply below_drew1) | exact HB.out)))); (case aL => have := LMc20.out; omega); intro v404 w21 ho hb hg hat; rw [← Ny403.out] at ho; have n0_ := Aside0.mk (hb); have n1_ := Aside0.mk (ho); clear HB; clear HO_7; have HB := n0_; have HO405 := n1_; clear n0_ n1_; clear ho hb hg hat))
                              go_roundg k3
                              case measure => have := HK1.out; have := HK2.out; have := HK3.out; omega
                              case rel => exact ⟨(y403), (wrap64 (x9_3 - ((rd_T35 l2 x11_2).f1))), (x12_3), (wrap64 (x11_2 + 1)), (by first | rfl | (simp; done) | (simp [*]; done)), (by first | rfl | (simp; done) | (simp [*]; done)), (by first | rfl | (simp; done) | (simp [*]; done)), H', ⟨by have := HK1.out; have := HK2.out; have := HK3.out; omega⟩, ⟨by (with_reducible repeat (first | apply Kd.R_alloc | apply Kd.R_drewN | apply Kd.R_drew)); exact HO405.out⟩, ⟨by repeat (first | (with_reducible first | exact HB.out | apply below_alloc | apply pw_below_drewN | apply below_drew1) | exact HB.out)⟩⟩
                            · rw [if_neg c20] at H
                              exact absurd H (by simp)
                        · rw [if_neg c17] at H
                          exact absurd H (by simp)
                      · rw [if_neg c16] at H
                        exact absurd H (by simp)
                · rw [if_neg c13] at H
                  exact absurd H (by simp)
              · rw [if_neg c12] at H
                have c12b0 : decide (x11_2 < (l2.length : Int)) = false := decide_eq_false c12
                clear c12
                obtain rfl := Option.some.inj H
                go_wp2
                go_ret
                exact ⟨_, by first | rfl | (simp [errW_none, errW_some] <;> rfl) | (simp [*, errW_none, errW_some] <;> rfl), by (with_reducible repeat (first | apply Kd.R_alloc | apply Kd.R_drewN | apply Kd.R_drew)); exact HO_7.out, by repeat (first | (with_reducible first | exact HB.out | apply below_alloc | apply pw_below_drewN | apply below_drew1) | exact HB.out)⟩
        · replace c10 := Bool.eq_false_iff.mpr c10
          subst c10
          have H1 : (some y395) = some r := by rw [if_neg (show ¬ (false = true) by decide)] at H; exact H
          clear H
          have H := H1
          clear H1
          obtain rfl := Option.some.inj H
          go_wp2_with (first | ((with_reducible refine gate_callee (f := 40) rfl ?_); refine goesL_ (some 31) rfl rfl Try.func40 (by kernel_rfl) rfl #[.int .i64 a0, .int .i64 a1, .slice A2 l2.length c2] rfl (by (try simp only [List.map_toArray, List.map_cons, List.map_nil]); first | done | rfl | (simp only [List.length_drop, List.length_take]; rfl)) ?_; (with_reducible refine (spec_l14Fits.calls k1 a0 a1 _ _ l2 false _ ?side1 ?side2 A9.out).mono ?_); (case side1 => repeat (first | exact (Kd.C_below HR2.out HB.out) | (with_reducible refine Kd.C_alloc ?_ _) | (with_reducible refine Kd.C_drewN ?_ _) | (with_reducible refine Kd.C_drew ?_))); (case side2 => exact HC2.out); rintro e w22 ⟨rfl, hb⟩; refine ⟨_, rfl, ?_⟩; have n0_ := Aside0.mk (Kd.R_below (by (with_reducible repeat (first | apply Kd.R_alloc | apply Kd.R_drewN | apply Kd.R_drew)); exact HO_7.out) hb); have n1_ := Aside0.mk (below_step (by repeat (first | (with_reducible first | exact HB.out | apply below_alloc | apply pw_below_drewN | apply below_drew1) | exact HB.out)) hb); clear HO_7; clear HB; have HO_7 := n0_; have HB := n1_; clear n0_ n1_; (try clear hb); (try clear hb2); (try clear hk); (try clear hi)))
          go_ret
          exact ⟨_, by first | rfl | (simp [errW_none, errW_some] <;> rfl) | (simp [*, errW_none, errW_some] <;> rfl), by (with_reducible repeat (first | apply Kd.R_alloc | apply Kd.R_drewN | apply Kd.R_drew)); exact HO_7.out, by repeat (first | (with_reducible first | exact HB.out | apply below_alloc | apply pw_below_drewN | apply below_drew1) | exact HB.out)⟩

/-! ### impl_ShapePulses: function 36 (by hand) -/
theorem sz_set (w : World) (a : Addr) (v : Value) : (w.setCell a v).heap.size = w.heap.size := by simp [World.setCell]
/-- When a frame of a size that comes at a time goes on, and what is left of the tokens then. -/
def shAt (r b T a pa ps : Int) : Int × Int :=
  let t1 := mx pa a
  let T1 := untilT r b T a t1
  if 0 < wrap64 (ps - T1) then
    let t2 := wrap64 (t1 + wrap64 (Int.tdiv (wrap64 (wrap64 (wrap64 (ps - T1) + r) - 1)) r))
    (wrap64 (untilT r b T1 t1 t2 - ps), t2)
  else (wrap64 (T1 - ps), t1)
/-- The times at which frames go on; none where one is too great. -/
def shL (r b : Int) : Int → Int → List S35 → Option (List Int)
  | _, _, [] => some []
  | T, a, p :: l => if b < p.f1 then none else (shL r b (shAt r b T a p.f0 p.f1).1 (shAt r b T a p.f0 p.f1).2 l).map fun o => (shAt r b T a p.f0 p.f1).2 :: o
def shF (r b : Int) (l : List S35) : List Int := if fitsB r b l = true then (shL r b b 0 l).getD [] else []
def impl_ShapePulses.f (a0 : Int) (a1 : Int) (l2 : List (S35)) : Option (List Int) :=
  some (shF a0 a1 l2)
set_option maxHeartbeats 4000000 in
set_option maxRecDepth 100000 in
theorem impl_ShapePulses.calls (a0 : Int) (a1 : Int) (A2 : Option Addr) (c2 : Nat) (l2 : List (S35)) (r : List Int) (w : World) (hr2 : Kd.C k35 w A2 l2.length l2) (hc2 : l2.length ≤ c2) (h : impl_ShapePulses.f a0 a1 l2 = some r) :
    Calls Try.prog 36 #[.int .i64 a0, .int .i64 a1, .slice A2 l2.length c2] w fun e w' => ∃ v0_ : Value, e = .returned (v0_) ∧ Kd.R (Kd.int .i64) 3 w' w.heap.size (fun _ => True) v0_ r ∧ Below w.heap.size w w' := by
  obtain rfl := Option.some.inj h
  have hu := Try.underlying35
  have hu2 := Try.underlying62
  have hnb := x_newBucket a0 a1 A2 c2 l2 w hr2 hc2
  have HR := Aside0.mk hr2
  have HF : Aside0 (shF a0 a1 l2 = if fitsB a0 a1 l2 = true then (shL a0 a1 a1 0 l2).getD [] else []) := ⟨rfl⟩
  have HL : Aside0 (fitsB a0 a1 l2 = true → l2.length ≤ 60 ∧ 1 ≤ a0) := ⟨fun h => ⟨(fitsB_facts h).2.1, (fitsB_facts h).2.2.1⟩⟩
  clear h hr2 hc2
  generalize shF a0 a1 l2 = z at HF ⊢
  generalize fitsB a0 a1 l2 = f at HF HL hnb
  cases f with
  | false =>
    have HZ : Aside0 (z = []) := ⟨by rw [HF.out]; rfl⟩
    go_enter Try.func36, Try.ntmps36
    go_wp2_with fail
    refine hnb.mono ?_
    rintro e w1 ⟨g, rfl, hg1, hge, hb1⟩
    clear hg1
    go_wp2
    go_ret
    exact ⟨.slice none 0 0, rfl, by rw [HZ.out]; exact Kd.R_nil _ _ _ _ _, hb1⟩
  | true =>
    have HZ : Aside0 (z = (shL a0 a1 a1 0 l2).getD []) := ⟨by rw [HF.out]; rfl⟩
    obtain ⟨hl, hr1⟩ := HL.out rfl
    clear HL
    go_enter Try.func36, Try.ntmps36
    go_wp2_with fail
    refine hnb.mono ?_
    rintro e w1 ⟨g, rfl, hg1, hge, hb1⟩
    have HG1 := Aside0.mk hg1
    have HB1 := Aside0.mk hb1
    have hgw := blk_lt hg1
    clear hg1 hb1 hnb
    go_wp2_with fail
    go_loopg [9, 11, 12, 24] l2.length (fun gg s9 _ _ s24 wr => ∃ (kk : Nat) (v : Value) (os : List Int) (T a : Int), kk ≤ l2.length ∧ l2.length - kk ≤ gg ∧ v = s9 ∧ s24 = .int .i64 kk ∧ os.length = kk ∧ Aside0 (((shL a0 a1 T a (l2.drop kk)).map fun o => os ++ o) = shL a0 a1 a1 0 l2) ∧
      Aside0 (Kd.R (Kd.int .i64) 3 wr w.heap.size (fun k => w1.heap.size ≤ k) v os) ∧ Aside0 (wr.heap[g]? = some (bk a0 a1 T a)) ∧ Aside0 (Below w.heap.size w wr) ∧ w1.heap.size ≤ wr.heap.size)
    case atStart => exact ⟨0, _, [], a1, 0, Nat.zero_le _, by omega, rfl, rfl, rfl, ⟨by rw [List.drop_zero]; simp⟩, ⟨Kd.R_nil _ _ _ _ _⟩, HG1, HB1, Nat.le_refl _⟩
    case round =>
      obtain ⟨kk, v, os, T, a, hkk, hgg, rfl, rfl, hbl, HP, HO, HS, BW, hws⟩ := hrel
      by_cases hlt : kk < l2.length
      · obtain ⟨ad, e, hx0, hx1⟩ := at_T35 (Kd.C_below HR.out BW.out) (kk : Int) (by omega) (by omega)
        cases e
        rw [Int.toNat_natCast] at hx0 hx1
        have hcons : shL a0 a1 T a (l2.drop kk) = if a1 < (rd_T35 l2 kk).f1 then none else (shL a0 a1 (shAt a0 a1 T a (rd_T35 l2 kk).f0 (rd_T35 l2 kk).f1).1 (shAt a0 a1 T a (rd_T35 l2 kk).f0 (rd_T35 l2 kk).f1).2 (l2.drop (kk + 1))).map fun o => (shAt a0 a1 T a (rd_T35 l2 kk).f0 (rd_T35 l2 kk).f1).2 :: o := by
          rw [List.drop_eq_getElem_cons hlt, rdP_get l2 kk hlt]; rfl
        have HP1 : Aside0 (((if a1 < (rd_T35 l2 kk).f1 then none else (shL a0 a1 (shAt a0 a1 T a (rd_T35 l2 kk).f0 (rd_T35 l2 kk).f1).1 (shAt a0 a1 T a (rd_T35 l2 kk).f0 (rd_T35 l2 kk).f1).2 (l2.drop (kk + 1))).map fun o => (shAt a0 a1 T a (rd_T35 l2 kk).f0 (rd_T35 l2 kk).f1).2 :: o).map fun o => os ++ o) = shL a0 a1 a1 0 l2) := ⟨by rw [← HP.out, hcons]⟩
        clear hcons HP
        generalize (rd_T35 l2 kk).f0 = pa at hx0 HP1
        generalize (rd_T35 l2 kk).f1 = ps at hx1 HP1
        by_cases c : a1 < ps
        · have cb : decide (a1 < ps) = true := decide_eq_true c
          have HZ2 : Aside0 (z = []) := ⟨by rw [HZ.out, ← HP1.out, if_pos c]; rfl⟩
          clear HP1 c
          go_wp2
          go_ret
          exact ⟨.slice none 0 0, rfl, by rw [HZ2.out]; exact Kd.R_nil _ _ _ _ _, below_alloc BW.out _⟩
        · have cb : decide (a1 < ps) = false := decide_eq_false c
          have HP2 : Aside0 (((shL a0 a1 (shAt a0 a1 T a pa ps).1 (shAt a0 a1 T a pa ps).2 (l2.drop (kk + 1))).map fun o => (os ++ [(shAt a0 a1 T a pa ps).2]) ++ o) = shL a0 a1 a1 0 l2) := ⟨by
            rw [← HP1.out, if_neg c, Option.map_map]; congr 1; funext o; simp⟩
          have HA : Aside0 (shAt a0 a1 T a pa ps = if 0 < wrap64 (ps - untilT a0 a1 T a (mx pa a)) then (wrap64 (untilT a0 a1 (untilT a0 a1 T a (mx pa a)) (mx pa a) (wrap64 (mx pa a + wrap64 (Int.tdiv (wrap64 (wrap64 (wrap64 (ps - untilT a0 a1 T a (mx pa a)) + a0) - 1)) a0))) - ps), wrap64 (mx pa a + wrap64 (Int.tdiv (wrap64 (wrap64 (wrap64 (ps - untilT a0 a1 T a (mx pa a)) + a0) - 1)) a0))) else (wrap64 (untilT a0 a1 T a (mx pa a) - ps), mx pa a)) := ⟨rfl⟩
          generalize shAt a0 a1 T a pa ps = sa at HA HP2
          clear HP1 c
          obtain ⟨t1, ht1⟩ : ∃ t1, t1 = mx pa a := ⟨_, rfl⟩
          rw [← ht1] at HA
          have hm1 : (if pa < a then a else pa) = t1 := ht1.symm
          have hcall := fun W (hW : W.heap[g]? = some (bk a0 a1 T a)) => x_until g a0 a1 T a t1 W hW
          generalize untilT a0 a1 T a t1 = T1 at HA hcall
          clear ht1
          have hA0 := Aside0.mk HO.out
          have hC0 : (wr.alloc (.cells #[.int .i64 pa, .int .i64 ps] 35)).cell? ⟨wr.heap.size, 0, none⟩ = some (.int .i64 pa) := (blk_cell (blk_new wr _) 0).trans rfl
          have hC1 : (wr.alloc (.cells #[.int .i64 pa, .int .i64 ps] 35)).cell? ⟨g, 3, none⟩ = some (.int .i64 a) := (blk_cell (blk_alloc HS.out _) 3).trans rfl
          have HX1 : Aside0 ((wr.alloc (.cells #[.int .i64 pa, .int .i64 ps] 35)).heap[g]? = some (bk a0 a1 T a) ∧ (wr.alloc (.cells #[.int .i64 pa, .int .i64 ps] 35)).heap[wr.heap.size]? = some (.cells #[.int .i64 pa, .int .i64 ps] 35 (0, 0)) ∧ TurnsG wr (wr.alloc (.cells #[.int .i64 pa, .int .i64 ps] 35)) g) := ⟨blk_alloc HS.out _, blk_new wr _, TurnsG.below (below_alloc (Below.refl _ wr) _) g⟩
          have hgwr := blk_lt HS.out
          clear HS
          go_wp2_with fail
          obtain ⟨nb, hnb⟩ : ∃ nb, nb = wr.heap.size := ⟨_, rfl⟩
          rw [← hnb] at hC0 HX1
          simp only [← hnb]
          have HN := Aside0.mk hnb
          clear hnb
          generalize wr.alloc (.cells #[.int .i64 pa, .int .i64 ps] 35) = W1 at *
          go_still_tail 8, (by kernel_rfl)
          change wpList _ _ _ _ _ W1.drew
          go_wp2_with fail
          refine (hcall W1.drew HX1.out.1).mono ?_
          rintro e w3 ⟨rfl, hg3, ht3⟩
          have p1 : w3.cell? ⟨nb, 1, none⟩ = some (.int .i64 ps) := (blk_cell (ht3.1.blk (w := W1.drew) HX1.out.2.1 (by rw [HN.out]; omega) (by simp)) 1).trans rfl
          have c2 : w3.cell? ⟨g, 2, none⟩ = some (.int .i64 T1) := (blk_cell hg3 2).trans rfl
          have c3 : w3.cell? ⟨g, 3, none⟩ = some (.int .i64 t1) := (blk_cell hg3 3).trans rfl
          have HX3 : Aside0 (w3.heap[g]? = some (bk a0 a1 T1 t1) ∧ w3.heap[nb]? = some (.cells #[.int .i64 pa, .int .i64 ps] 35 (0, 0)) ∧ TurnsG wr w3 g) := ⟨hg3, ht3.1.blk (w := W1.drew) HX1.out.2.1 (by rw [HN.out]; omega) (by simp), (HX1.out.2.2.trans (TurnsG.below (w' := W1.drew) (Below.refl _ W1).drew g)).trans ht3⟩
          clear hg3 ht3 hcall HX1 hC0 hC1
          obtain ⟨x, hx⟩ : ∃ x, x = wrap64 (ps - T1) := ⟨_, rfl⟩
          rw [← hx] at HA
          have hxw : IntKind.i64.wrap (ps - T1) = x := (i64_w _).trans hx.symm
          clear hx
          by_cases c : 0 < x
          · have cb : decide (0 < x) = true := decide_eq_true c
            go_wp2
            go_quiet (fail)
            go_wp2
            obtain ⟨x1, hx1⟩ : ∃ x1, x1 = wrap64 (x + a0) := ⟨_, rfl⟩
            obtain ⟨x2, hx2⟩ : ∃ x2, x2 = wrap64 (x1 - 1) := ⟨_, rfl⟩
            obtain ⟨x3, hx3⟩ : ∃ x3, x3 = wrap64 (x2.tdiv a0) := ⟨_, rfl⟩
            obtain ⟨t2, ht2⟩ : ∃ t2, t2 = wrap64 (t1 + x3) := ⟨_, rfl⟩
            have q1 : IntKind.i64.wrap (x + a0) = x1 := (i64_w _).trans hx1.symm
            have q2 : IntKind.i64.wrap (x1 - 1) = x2 := (i64_w _).trans hx2.symm
            have q3 : IntKind.i64.wrap (x2.tdiv a0) = x3 := (i64_w _).trans hx3.symm
            have q4 : IntKind.i64.wrap (t1 + x3) = t2 := (i64_w _).trans ht2.symm
            rw [← hx1, ← hx2, ← hx3, ← ht2] at HA
            clear hx1 hx2 hx3 ht2
            have c3' : (w3.drewN nq).cell? ⟨g, 3, none⟩ = some (.int .i64 t1) := c3
            have HX4 : Aside0 ((w3.drewN nq).heap[g]? = some (bk a0 a1 T1 t1) ∧ (w3.drewN nq).heap[nb]? = some (.cells #[.int .i64 pa, .int .i64 ps] 35 (0, 0)) ∧ TurnsG wr (w3.drewN nq) g) := ⟨HX3.out.1, HX3.out.2.1, HX3.out.2.2.trans (TurnsG.below (pw_below_drewN (Below.refl _ _) _) g)⟩
            clear c2 c3 p1 HX3
            generalize w3.drewN nq = w4 at *
            have hcall2 := x_until g a0 a1 T1 t1 t2 w4.drew HX4.out.1
            generalize untilT a0 a1 T1 t1 t2 = T2 at HA hcall2
            have ha0 : (a0 = 0) = False := eq_false (by omega)
            go_still_tail 12, (by kernel_rfl)
            change wpList _ _ _ _ _ w4.drew
            go_wp2_with fail
            refine hcall2.mono ?_
            rintro e w5 ⟨rfl, hg5, ht5⟩
            have HX5 : Aside0 (w5.heap[g]? = some (bk a0 a1 T2 t2) ∧ w5.heap[nb]? = some (.cells #[.int .i64 pa, .int .i64 ps] 35 (0, 0)) ∧ TurnsG wr w5 g) := ⟨hg5, ht5.1.blk (w := w4.drew) HX4.out.2.1 (by rw [HN.out]; omega) (by simp), (HX4.out.2.2.trans (TurnsG.below (w' := w4.drew) (Below.refl _ w4).drew g)).trans ht5⟩
            clear hg5 ht5 hcall2 HX4 c3'
            go_wp2
            obtain ⟨y, hy⟩ : ∃ y, y = wrap64 (T2 - ps) := ⟨_, rfl⟩
            have hyw : IntKind.i64.wrap (T2 - ps) = y := (i64_w _).trans hy.symm
            have HSA : Aside0 (sa = (y, t2)) := ⟨by rw [HA.out, if_pos c, hy]⟩
            clear hy
            have d2 : w5.cell? ⟨g, 2, none⟩ = some (.int .i64 T2) := (blk_cell HX5.out.1 2).trans rfl
            have d1 : w5.cell? ⟨nb, 1, none⟩ = some (.int .i64 ps) := (blk_cell HX5.out.2.1 1).trans rfl
            have df : w5.frozen? ⟨g, 2, none⟩ = false := blk_frozen HX5.out.1 2
            go_still_tail 9, (by kernel_rfl)
            change wpList _ _ _ _ _ w5.drew
            have HX5' : Aside0 (w5.drew.heap[g]? = some (bk a0 a1 T2 t2) ∧ TurnsG wr w5.drew g) := ⟨HX5.out.1, HX5.out.2.2.trans (TurnsG.below (w' := w5.drew) (Below.refl _ w5).drew g)⟩
            have d2' : w5.drew.cell? ⟨g, 2, none⟩ = some (.int .i64 T2) := d2
            have df' : w5.drew.frozen? ⟨g, 2, none⟩ = false := df
            clear d2 d1 df HX5 
            generalize w5.drew = w6 at *
            have b2 := blk_put HX5'.out.1 2 (.int .i64 y) rfl
            have b3 : (w6.setCell ⟨g, 2, none⟩ (.int .i64 y)).cell? ⟨g, 3, none⟩ = some (.int .i64 t2) := (blk_cell b2 3).trans rfl
            have HX6 : Aside0 ((w6.setCell ⟨g, 2, none⟩ (.int .i64 y)).heap[g]? = some (bk a0 a1 y t2) ∧ TurnsG wr (w6.setCell ⟨g, 2, none⟩ (.int .i64 y)) g) := ⟨b2, HX5'.out.2.set 2 _⟩
            clear b2 HX5'
            have HO1 := Aside0.mk (Kd.R_keep HO.out HX6.out.2.1 (fun k hk => by omega))
            have BW1 := Aside0.mk (HX6.out.2.2 w (by omega) BW.out)
            have hws1 := HX6.out.2.1.1
            have HG1 := Aside0.mk HX6.out.1
            clear HO BW HX6 hA0
            have hl1 : os.length + 1 ≤ 60 := by omega
            go_wp2_with (first | ((with_reducible refine gate_builtin (b := .append) (xs := #[.tmp 72, .tmp 77]) rfl ?_); at_builtin; refine Kd.R_append (Kd.int .i64) (w0 := w) w.heap.size rfl (.tmp 72) (.tmp 77) 49 3 (.int .i64 0) 8 rfl Try.underlying49 (by kernel_rfl) rfl (by decide) (by omega) v os t2 [.int .i64 t2] (fun k => w1.heap.size ≤ k) (fun _ => False) rfl ?aX ?aP (fun _ hk => hk.elim) ?aF ?aO ?aB ?aS ?aL ?_; (case aX => rw [sz_set]; rfl); (case aP => exact rfl); (case aB => exact BW1.out); (case aF => exact (fun k hk => by omega)); (case aO => exact HO1.out); (case aS => exact BW1.out.size); (case aL => omega); intro v2 w2 ho2 hb2 hgr2 _; have HO2 := Aside0.mk ho2; have BW2 := Aside0.mk hb2; have HG2 := Aside0.mk (blk_grown HG1.out hgr2 (fun e => by have := HO1.out.1 g e.symm; omega)); have hws2 := hgr2.size; clear ho2 hb2 hgr2))
            go_roundg (l2.length - (kk + 1))
            case measure => omega
            case rel => exact ⟨kk + 1, v2, os ++ [t2], y, t2, by omega, by omega, rfl, by go_num, by simp [hbl], ⟨by rw [← HP2.out, HSA.out]⟩, HO2, HG2, BW2, by omega⟩
          · have cb : decide (0 < x) = false := decide_eq_false c
            go_wp2
            go_quiet (fail)
            go_wp2
            have HX5 : Aside0 ((w3.drewN nq).heap[g]? = some (bk a0 a1 T1 t1) ∧ (w3.drewN nq).heap[nb]? = some (.cells #[.int .i64 pa, .int .i64 ps] 35 (0, 0)) ∧ TurnsG wr (w3.drewN nq) g) := ⟨HX3.out.1, HX3.out.2.1, HX3.out.2.2.trans (TurnsG.below (pw_below_drewN (Below.refl _ _) _) g)⟩
            clear c2 c3 p1 HX3
            generalize w3.drewN nq = w4 at *
            obtain ⟨y, hy⟩ : ∃ y, y = wrap64 (T1 - ps) := ⟨_, rfl⟩
            have hyw : IntKind.i64.wrap (T1 - ps) = y := (i64_w _).trans hy.symm
            have HSA : Aside0 (sa = (y, t1)) := ⟨by rw [HA.out, if_neg (by omega), hy]⟩
            clear hy
            have d3 : w4.cell? ⟨g, 3, none⟩ = some (.int .i64 t1) := (blk_cell HX5.out.1 3).trans rfl
            have d2 : w4.cell? ⟨g, 2, none⟩ = some (.int .i64 T1) := (blk_cell HX5.out.1 2).trans rfl
            have d1 : w4.cell? ⟨nb, 1, none⟩ = some (.int .i64 ps) := (blk_cell HX5.out.2.1 1).trans rfl
            have df : w4.frozen? ⟨g, 2, none⟩ = false := blk_frozen HX5.out.1 2
            go_still_tail 9, (by kernel_rfl)
            change wpList _ _ _ _ _ w4.drew
            have HX5' : Aside0 (w4.drew.heap[g]? = some (bk a0 a1 T1 t1) ∧ TurnsG wr w4.drew g) := ⟨HX5.out.1, HX5.out.2.2.trans (TurnsG.below (w' := w4.drew) (Below.refl _ w4).drew g)⟩
            have d2' : w4.drew.cell? ⟨g, 2, none⟩ = some (.int .i64 T1) := d2
            have df' : w4.drew.frozen? ⟨g, 2, none⟩ = false := df
            clear d2 d1 df HX5 d3
            generalize w4.drew = w6 at *
            have b2 := blk_put HX5'.out.1 2 (.int .i64 y) rfl
            have b3 : (w6.setCell ⟨g, 2, none⟩ (.int .i64 y)).cell? ⟨g, 3, none⟩ = some (.int .i64 t1) := (blk_cell b2 3).trans rfl
            have HX6 : Aside0 ((w6.setCell ⟨g, 2, none⟩ (.int .i64 y)).heap[g]? = some (bk a0 a1 y t1) ∧ TurnsG wr (w6.setCell ⟨g, 2, none⟩ (.int .i64 y)) g) := ⟨b2, HX5'.out.2.set 2 _⟩
            clear b2 HX5'
            have HO1 := Aside0.mk (Kd.R_keep HO.out HX6.out.2.1 (fun k hk => by omega))
            have BW1 := Aside0.mk (HX6.out.2.2 w (by omega) BW.out)
            have hws1 := HX6.out.2.1.1
            have HG1 := Aside0.mk HX6.out.1
            clear HO BW HX6 hA0
            have hl1 : os.length + 1 ≤ 60 := by omega
            go_wp2_with (first | ((with_reducible refine gate_builtin (b := .append) (xs := #[.tmp 72, .tmp 77]) rfl ?_); at_builtin; refine Kd.R_append (Kd.int .i64) (w0 := w) w.heap.size rfl (.tmp 72) (.tmp 77) 49 3 (.int .i64 0) 8 rfl Try.underlying49 (by kernel_rfl) rfl (by decide) (by omega) v os t1 [.int .i64 t1] (fun k => w1.heap.size ≤ k) (fun _ => False) rfl ?aX ?aP (fun _ hk => hk.elim) ?aF ?aO ?aB ?aS ?aL ?_; (case aX => rw [sz_set]; rfl); (case aP => exact rfl); (case aB => exact BW1.out); (case aF => exact (fun k hk => by omega)); (case aO => exact HO1.out); (case aS => exact BW1.out.size); (case aL => omega); intro v2 w2 ho2 hb2 hgr2 _; have HO2 := Aside0.mk ho2; have BW2 := Aside0.mk hb2; have HG2 := Aside0.mk (blk_grown HG1.out hgr2 (fun e => by have := HO1.out.1 g e.symm; omega)); have hws2 := hgr2.size; clear ho2 hb2 hgr2))
            go_roundg (l2.length - (kk + 1))
            case measure => omega
            case rel => exact ⟨kk + 1, v2, os ++ [t1], y, t1, by omega, by omega, rfl, by go_num, by simp [hbl], ⟨by rw [← HP2.out, HSA.out]⟩, HO2, HG2, BW2, by omega⟩
      · have e : kk = l2.length := by omega
        subst e
        have HZ2 : Aside0 (z = os) := ⟨by rw [HZ.out, ← HP.out, List.drop_length]; simp [shL]⟩
        go_wp2
        go_ret
        exact ⟨v, rfl, by rw [HZ2.out]; exact Kd.R_mono HO.out (fun _ _ => trivial), BW.out⟩

/-! ### laws_wnInts: function 37 -/
def laws_wnInts.l0 : Nat → List Int → List Int → Int → Int → Option (Bool)
  | 0, _, _, _, _ => none
  | k + 1, x1, x12, x13, x14 => if x14 < x13 then (if 0 ≤ x14 then (if x14 < (x12.length : Int) then (if x14 < (x1.length : Int) then (if (rd x1 x14) = (rd x12 x14) then (laws_wnInts.l0 k x1 x12 x13 (wrap64 (x14 + 1))) else (some false)) else (none)) else (none)) else (none)) else (some true)
def laws_wnInts.f (k : Nat) (l0 : List Int) (l1 : List Int) : Option (Bool) := if (l0.length : Int) = (l1.length : Int) then (laws_wnInts.l0 k l1 l0 (l0.length : Int) 0) else (some false)
theorem laws_wnInts.mono_l : ∀ k, (∀ y0 y1 y2 y3, LeO (laws_wnInts.l0 k y0 y1 y2 y3) (laws_wnInts.l0 (k + 1) y0 y1 y2 y3))
  | 0 => fun _ _ _ _ r h => by simp [laws_wnInts.l0] at h
  | k + 1 => by
    have ih0 := laws_wnInts.mono_l k
    · intro y0 y1 y2 y3
      unfold laws_wnInts.l0
      repeat' first
      | (with_reducible exact ih0 _ _ _ _)
      | (with_reducible exact LeO.refl _)
      | (with_reducible exact LeO.none _)
      | (with_reducible refine LeO.ite ?_ ?_)
      | (with_reducible refine LeO.bind ?_ (fun _ => ?_))
      | exact ih0 _ _ _ _
      | exact LeO.none _
      | refine LeO.ite ?_ ?_
      | refine LeO.bind ?_ (fun _ => ?_)
theorem laws_wnInts.mono : ∀ a0 a1 k, LeO (laws_wnInts.f k a0 a1) (laws_wnInts.f (k + 1) a0 a1) := by
  intro a0 a1 k
  have ih0 := laws_wnInts.mono_l k
  unfold laws_wnInts.f
  repeat' first
      | (with_reducible exact ih0 _ _ _ _)
      | (with_reducible exact LeO.refl _)
      | (with_reducible exact LeO.none _)
      | (with_reducible refine LeO.ite ?_ ?_)
      | (with_reducible refine LeO.bind ?_ (fun _ => ?_))
      | exact ih0 _ _ _ _
      | exact LeO.none _
      | refine LeO.ite ?_ ?_
      | refine LeO.bind ?_ (fun _ => ?_)
set_option maxHeartbeats 8000000 in
set_option maxRecDepth 100000 in
theorem laws_wnInts.calls (k : Nat) (A0 : Option Addr) (c0 : Nat) (l0 : List Int) (A1 : Option Addr) (c1 : Nat) (l1 : List Int) (r : Bool) (w : World) (hr0 : Kd.C (Kd.int .i64) w A0 l0.length l0) (hc0 : l0.length ≤ c0) (hr1 : Kd.C (Kd.int .i64) w A1 l1.length l1) (hc1 : l1.length ≤ c1) (h : laws_wnInts.f k l0 l1 = some r) :
    Calls Try.prog 37 #[.slice A0 l0.length c0, .slice A1 l1.length c1] w fun e w' => e = .returned (.bool r) ∧ Drawn0 w w' := by
  have HR0 := Aside0.mk hr0
  have HC0 := Aside0.mk hc0
  clear hr0 hc0
  have HR1 := Aside0.mk hr1
  have HC1 := Aside0.mk hc1
  clear hr1 hc1
  have H : (if (l0.length : Int) = (l1.length : Int) then (laws_wnInts.l0 k l1 l0 (l0.length : Int) 0) else (some false)) = some r := h
  clear h
  by_cases c3 : (l0.length : Int) = (l1.length : Int)
  · rw [if_pos c3] at H
    have c3b0 : ((l0.length : Int) == (l1.length : Int)) = true := beq_iff_eq.mpr c3
    have c3b1 : ((l0.length : Int) != (l1.length : Int)) = false := bne_eq_false_iff_eq.mpr c3
    have c3b2 : (l0.length == l1.length) = true := by first | simpa using c3 | (simp at c3 ⊢; omega)
    clear c3
    have H' := Aside0.mk H
    clear H
    go_enter Try.func37, Try.ntmps37
    go_wp2
    go_loopg [14] k (fun kq v14 w' => ∃ (x14_1 : Int), v14 = .int .i64 x14_1 ∧ Aside0 (laws_wnInts.l0 kq l1 l0 (l0.length : Int) x14_1 = some r) ∧ Aside0 (kq ≤ k) ∧ Drawn0 w w')
    case atStart => exact ⟨(0), (by first | rfl | (simp; done) | (simp [*]; done)), H', ⟨Nat.le_refl _⟩, by repeat (first | exact Drawn0.refl _ | apply Drawn0.step)⟩
    case round =>
      clear H'
      try clear c1
      try clear p2
      try clear c3
      try clear c3b0
      try clear c3b1
      try clear c3b2
      obtain ⟨x14_1, rfl, HA, HK1, ⟨m1, rfl⟩⟩ := hrel
      cases gk with
      | zero => exact absurd HA.out (by simp [laws_wnInts.l0])
      | succ k1 =>
        have H := HA.out
        clear HA
        simp only [laws_wnInts.l0] at H
        by_cases c4 : x14_1 < (l0.length : Int)
        · rw [if_pos c4] at H
          have c4b0 : decide (x14_1 < (l0.length : Int)) = true := decide_eq_true c4
          clear c4
          by_cases c5 : 0 ≤ x14_1
          · rw [if_pos c5] at H
            have c5b0 : decide (0 ≤ x14_1) = true := decide_eq_true c5
            clear c5
            by_cases c6 : x14_1 < (l0.length : Int)
            · rw [if_pos c6] at H
              have c6b0 : decide (x14_1 < (l0.length : Int)) = true := decide_eq_true c6
              clear c6
              by_cases c7 : x14_1 < (l1.length : Int)
              · rw [if_pos c7] at H
                have c7b0 : decide (x14_1 < (l1.length : Int)) = true := decide_eq_true c7
                clear c7
                by_cases c8 : (rd l1 x14_1) = (rd l0 x14_1)
                · rw [if_pos c8] at H
                  have c8b0 : ((rd l1 x14_1) == (rd l0 x14_1)) = true := beq_iff_eq.mpr c8
                  have c8b1 : ((rd l1 x14_1) != (rd l0 x14_1)) = false := bne_eq_false_iff_eq.mpr c8
                  clear c8
                  have H' := Aside0.mk H
                  clear H
                  have p448 : 0 ≤ (x14_1 : Int) := of_decide_eq_true (by first | (with_reducible assumption) | assumption)
                  have q448 : x14_1 < (l0.length : Int) := of_decide_eq_true (by first | (with_reducible assumption) | assumption)
                  obtain ⟨ad448, e448, hx448_0⟩ := Kd.at_int HR0.out x14_1 p448 q448
                  cases e448
                  replace p448 := eq_true p448
                  replace q448 := eq_true q448
                  have p449 : 0 ≤ (x14_1 : Int) := of_decide_eq_true (by first | (with_reducible assumption) | assumption)
                  have q449 : x14_1 < (l1.length : Int) := of_decide_eq_true (by first | (with_reducible assumption) | assumption)
                  obtain ⟨ad449, e449, hx449_0⟩ := Kd.at_int HR1.out x14_1 p449 q449
                  cases e449
                  replace p449 := eq_true p449
                  replace q449 := eq_true q449
                  go_wp2
                  go_roundg k1
                  case measure => have := HK1.out; omega
                  case rel => exact ⟨(wrap64 (x14_1 + 1)), (by first | rfl | (simp; done) | (simp [*]; done)), H', ⟨by have := HK1.out; omega⟩, by repeat (first | exact Drawn0.refl _ | apply Drawn0.step)⟩
                · rw [if_neg c8] at H
                  have c8b0 : ((rd l1 x14_1) == (rd l0 x14_1)) = false := beq_eq_false_iff_ne.mpr c8
                  have c8b1 : ((rd l1 x14_1) != (rd l0 x14_1)) = true := bne_iff_ne.mpr c8
                  obtain rfl := Option.some.inj H
                  have p448 : 0 ≤ (x14_1 : Int) := of_decide_eq_true (by first | (with_reducible assumption) | assumption)
                  have q448 : x14_1 < (l0.length : Int) := of_decide_eq_true (by first | (with_reducible assumption) | assumption)
                  obtain ⟨ad448, e448, hx448_0⟩ := Kd.at_int HR0.out x14_1 p448 q448
                  cases e448
                  replace p448 := eq_true p448
                  replace q448 := eq_true q448
                  have p449 : 0 ≤ (x14_1 : Int) := of_decide_eq_true (by first | (with_reducible assumption) | assumption)
                  have q449 : x14_1 < (l1.length : Int) := of_decide_eq_true (by first | (with_reducible assumption) | assumption)
                  obtain ⟨ad449, e449, hx449_0⟩ := Kd.at_int HR1.out x14_1 p449 q449
                  cases e449
                  replace p449 := eq_true p449
                  replace q449 := eq_true q449
                  go_wp2
                  go_ret
                  exact ⟨by first | rfl | (simp; done) | (simp [*]; done), by repeat (first | exact Drawn0.refl _ | apply Drawn0.step)⟩
              · rw [if_neg c7] at H
                exact absurd H (by simp)
            · rw [if_neg c6] at H
              exact absurd H (by simp)
          · rw [if_neg c5] at H
            exact absurd H (by simp)
        · rw [if_neg c4] at H
          have c4b0 : decide (x14_1 < (l0.length : Int)) = false := decide_eq_false c4
          clear c4
          obtain rfl := Option.some.inj H
          go_wp2
          go_ret
          exact ⟨by first | rfl | (simp; done) | (simp [*]; done), by repeat (first | exact Drawn0.refl _ | apply Drawn0.step)⟩
  · rw [if_neg c3] at H
    have c3b0 : ((l0.length : Int) == (l1.length : Int)) = false := beq_eq_false_iff_ne.mpr c3
    have c3b1 : ((l0.length : Int) != (l1.length : Int)) = true := bne_iff_ne.mpr c3
    have c3b2 : (l0.length == l1.length) = false := by first | simpa using c3 | (simp at c3 ⊢; omega)
    obtain rfl := Option.some.inj H
    go_enter Try.func37, Try.ntmps37
    go_wp2
    go_ret
    exact ⟨by first | rfl | (simp; done) | (simp [*]; done), by repeat (first | exact Drawn0.refl _ | apply Drawn0.step)⟩

/-! ### laws_wnAtTimes: function 39 -/
def laws_wnAtTimes.l0 : Nat → List Int → List (S35) → List (S35) → Int → Int → Option ((List (S35)))
  | 0, _, _, _, _, _ => none
  | k + 1, x1, x5, x9, x10, x11 => if x11 < x10 then (if 0 ≤ x11 then (if x11 < (x9.length : Int) then (if x11 < (x1.length : Int) then (if x5.length < 8796093022208 then (laws_wnAtTimes.l0 k x1 (x5 ++ [(⟨rd x1 x11, (rd_T35 x9 x11).f1⟩ : S35)]) x9 x10 (wrap64 (x11 + 1))) else (none)) else (none)) else (none)) else (none)) else (some x5)
def laws_wnAtTimes.f (k : Nat) (l0 : List (S35)) (l1 : List Int) : Option ((List (S35))) := laws_wnAtTimes.l0 k l1 (([] : List (S35))) l0 (l0.length : Int) 0
theorem laws_wnAtTimes.mono_l : ∀ k, (∀ y0 y1 y2 y3 y4, LeO (laws_wnAtTimes.l0 k y0 y1 y2 y3 y4) (laws_wnAtTimes.l0 (k + 1) y0 y1 y2 y3 y4))
  | 0 => fun _ _ _ _ _ r h => by simp [laws_wnAtTimes.l0] at h
  | k + 1 => by
    have ih0 := laws_wnAtTimes.mono_l k
    · intro y0 y1 y2 y3 y4
      unfold laws_wnAtTimes.l0
      repeat' first
      | (with_reducible exact ih0 _ _ _ _ _)
      | (with_reducible exact LeO.refl _)
      | (with_reducible exact LeO.none _)
      | (with_reducible refine LeO.ite ?_ ?_)
      | (with_reducible refine LeO.bind ?_ (fun _ => ?_))
      | exact ih0 _ _ _ _ _
      | exact LeO.none _
      | refine LeO.ite ?_ ?_
      | refine LeO.bind ?_ (fun _ => ?_)
theorem laws_wnAtTimes.mono : ∀ a0 a1 k, LeO (laws_wnAtTimes.f k a0 a1) (laws_wnAtTimes.f (k + 1) a0 a1) := by
  intro a0 a1 k
  have ih0 := laws_wnAtTimes.mono_l k
  unfold laws_wnAtTimes.f
  repeat' first
      | (with_reducible exact ih0 _ _ _ _ _)
      | (with_reducible exact LeO.refl _)
      | (with_reducible exact LeO.none _)
      | (with_reducible refine LeO.ite ?_ ?_)
      | (with_reducible refine LeO.bind ?_ (fun _ => ?_))
      | exact ih0 _ _ _ _ _
      | exact LeO.none _
      | refine LeO.ite ?_ ?_
      | refine LeO.bind ?_ (fun _ => ?_)
def laws_wnAtTimes.T5 : Bool × List (List Nat × List Nat) := (true, [([], []), ([], []), ([], []), ([1, 2], [1, 2]), ([3], [3]), ([], []), ([5], [5]), ([4, 6], [4, 6]), ([7], [7]), ([0, 8], [0, 8]), ([9, 9, 0, 1, 2, 3, 4, 5, 6, 7, 8, 9], [0, 9])])
def laws_wnAtTimes.B5 : List Nat := [0, 0, 0, 6, 14, 0, 32, 126, 254, 511, 1023]
theorem laws_wnAtTimes.tab5 : rtab .any (opsOf Try.f39 5) = laws_wnAtTimes.T5 := by kernel_rfl
theorem laws_wnAtTimes.bits5 : waitsOk laws_wnAtTimes.T5.2 laws_wnAtTimes.B5 = true := by kernel_rfl
set_option maxHeartbeats 8000000 in
set_option maxRecDepth 100000 in
theorem laws_wnAtTimes.calls (k : Nat) (A0 : Option Addr) (c0 : Nat) (l0 : List (S35)) (A1 : Option Addr) (c1 : Nat) (l1 : List Int) (r : List (S35)) (w : World) (hr0 : Kd.C k35 w A0 l0.length l0) (hc0 : l0.length ≤ c0) (hr1 : Kd.C (Kd.int .i64) w A1 l1.length l1) (hc1 : l1.length ≤ c1) (h : laws_wnAtTimes.f k l0 l1 = some r) :
    Calls Try.prog 39 #[.slice A0 l0.length c0, .slice A1 l1.length c1] w fun e w' => ∃ v0_ : Value, e = .returned (v0_) ∧ Kd.R k35 35 w' w.heap.size (fun _ => True) v0_ r ∧ Below w.heap.size w w' := by
  have hu35 := Try.underlying35
  have HR0 := Aside0.mk hr0
  have HC0 := Aside0.mk hc0
  clear hr0 hc0
  have HR1 := Aside0.mk hr1
  have HC1 := Aside0.mk hc1
  clear hr1 hc1
  have HB := Aside0.mk (Below.refl w.heap.size w)
  have H : (laws_wnAtTimes.l0 k l1 (([] : List (S35))) l0 (l0.length : Int) 0) = some r := h
  clear h
  obtain ⟨y450, hy450⟩ : ∃ y_ : List (S35), y_ = (([] : List (S35))) := ⟨_, rfl⟩
  replace H : (laws_wnAtTimes.l0 k l1 y450 l0 (l0.length : Int) 0) = some r := by first | (rw [hy450]; with_reducible exact H) | (have H2_ := (Option.bind_some _ _).symm.trans H; rw [hy450]; with_reducible exact H2_) | (have H2_ := (Option.bind_some _ _).symm.trans H; with_reducible exact H2_) | with_reducible exact H | (rw [hy450]; exact H) | exact H
  have Ny450 := Aside0.mk hy450
  clear hy450
  have H' := Aside0.mk H
  clear H
  go_enter Try.func39, Try.ntmps39
  go_wp2_with (first | ((with_reducible refine gate_dst (N := 8) rfl ?_); refine Kd.R_lit k35 _ 35 ?hg (N := 8) ?hd (xs := ([] : List (S35))) (inner := []) (ok := fun _ => True) (okp := fun _ => True) ?hr ?hp (fun _ hk => hk) trivial (Below.refl _ _) (Nat.le_refl _) (by simp) ?_; (case hd => rfl); (case hg => rfl); (case hr => first | (go_simp; done) | (go_simp; rfl)); (case hp => exact (Reps.none _ _)); intro v451 w3 ho4 hb hg_ hnew_; clear hg_ hnew_; (first | rw [← Ny450.out] at ho4 | (simp only [Int.reduceToNat] at ho4; rw [← Ny450.out] at ho4)); have n0_ := Aside0.mk (Kd.R_lower ho4 (below_size (by repeat (first | (with_reducible first | exact HB.out | apply below_alloc | apply pw_below_drewN | apply below_drew1) | exact HB.out)))); have n1_ := Aside0.mk (below_step (by repeat (first | (with_reducible first | exact HB.out | apply below_alloc | apply pw_below_drewN | apply below_drew1) | exact HB.out)) hb); clear HB; have HO452 := n0_; have HB := n1_; clear n0_ n1_; clear hb ho4))
  go_loopg [5, 11] k (fun kq v5 v11 w' => ∃ (x5_1 : List (S35)) (x11_1 : Int), v11 = .int .i64 x11_1 ∧ Aside0 (laws_wnAtTimes.l0 kq l1 x5_1 l0 (l0.length : Int) x11_1 = some r) ∧ Aside0 (kq ≤ k) ∧ Aside0 (Kd.R k35 35 w' w.heap.size (fun _ => True) v5 x5_1) ∧ Aside0 (Below w.heap.size w w'))
  case atStart => exact ⟨(y450), (0), (by first | rfl | (simp; done) | (simp [*]; done)), H', ⟨Nat.le_refl _⟩, ⟨by (with_reducible repeat (first | apply Kd.R_alloc | apply Kd.R_drewN | apply Kd.R_drew)); exact HO452.out⟩, ⟨by repeat (first | (with_reducible first | exact HB.out | apply below_alloc | apply pw_below_drewN | apply below_drew1) | exact HB.out)⟩⟩
  case round =>
    clear H'
    try clear c1
    try clear p2
    try clear c3
    obtain ⟨x5_1, x11_1, rfl, HA, HK1, HO_5, HB⟩ := hrel
    cases gk with
    | zero => exact absurd HA.out (by simp [laws_wnAtTimes.l0])
    | succ k1 =>
      have H := HA.out
      clear HA
      simp only [laws_wnAtTimes.l0] at H
      by_cases c5 : x11_1 < (l0.length : Int)
      · rw [if_pos c5] at H
        have c5b0 : decide (x11_1 < (l0.length : Int)) = true := decide_eq_true c5
        clear c5
        by_cases c6 : 0 ≤ x11_1
        · rw [if_pos c6] at H
          have c6b0 : decide (0 ≤ x11_1) = true := decide_eq_true c6
          clear c6
          by_cases c7 : x11_1 < (l0.length : Int)
          · rw [if_pos c7] at H
            have c7b0 : decide (x11_1 < (l0.length : Int)) = true := decide_eq_true c7
            clear c7
            by_cases c8 : x11_1 < (l1.length : Int)
            · rw [if_pos c8] at H
              have c8b0 : decide (x11_1 < (l1.length : Int)) = true := decide_eq_true c8
              clear c8
              by_cases c9 : x5_1.length < 8796093022208
              · rw [if_pos c9] at H
                have LMc9 := Aside0.mk c9
                clear c9
                obtain ⟨y456, hy456⟩ : ∃ y_ : List (S35), y_ = (x5_1 ++ [(⟨rd l1 x11_1, (rd_T35 l0 x11_1).f1⟩ : S35)]) := ⟨_, rfl⟩
                replace H : (laws_wnAtTimes.l0 k1 l1 y456 l0 (l0.length : Int) (wrap64 (x11_1 + 1))) = some r := by first | (rw [hy456]; with_reducible exact H) | (have H2_ := (Option.bind_some _ _).symm.trans H; rw [hy456]; with_reducible exact H2_) | (have H2_ := (Option.bind_some _ _).symm.trans H; with_reducible exact H2_) | with_reducible exact H | (rw [hy456]; exact H) | exact H
                have Ny456 := Aside0.mk hy456
                clear hy456
                have H' := Aside0.mk H
                clear H
                have p453 : 0 ≤ (x11_1 : Int) := of_decide_eq_true (by first | (with_reducible assumption) | assumption)
                have q453 : x11_1 < (l0.length : Int) := of_decide_eq_true (by first | (with_reducible assumption) | assumption)
                obtain ⟨ad453, e453, hx453_0, hx453_1⟩ := at_T35 HR0.out x11_1 p453 q453
                cases e453
                replace hx453_0 := (HB.out.cell (World.block_lt_of_cell? w _ hx453_0)).trans hx453_0
                replace hx453_1 := (HB.out.cell (World.block_lt_of_cell? w _ hx453_1)).trans hx453_1
                replace p453 := eq_true p453
                replace q453 := eq_true q453
                try go_wp2_with (first | ((with_reducible refine gate_dst (N := 7) rfl ?_); refine box_event ?hg (N := 7) ?hd (cs := #[.int .i64 0, .int .i64 0]) (t := 35) ?hr ?_; (case hd => rfl); (case hg => rfl); (case hr => first | (go_simp; done) | (go_simp; rfl)); intro gb454 hg w10 hbox hb; have n0_ := Aside0.mk (Kd.R_below (Kd.R_elderB (by (with_reducible repeat (first | apply Kd.R_alloc | apply Kd.R_drewN | apply Kd.R_drew)); exact HO_5.out) gb454 (Nat.le_of_eq hg.symm)) hb); have n1_ := Aside0.mk (below_step (by repeat (first | (with_reducible first | exact HB.out | apply below_alloc | apply pw_below_drewN | apply below_drew1) | exact HB.out)) hb); have n2_ := Aside0.mk (hbox); have n3_ := Aside0.mk ((by rw [hg]; exact (below_size (by repeat (first | (with_reducible first | exact HB.out | apply below_alloc | apply pw_below_drewN | apply below_drew1) | exact HB.out))) : w.heap.size ≤ gb454)); have n4_ := Aside0.mk ((by rw [hg]; exact (below_size (by repeat (first | (with_reducible first | exact HB.out | apply below_alloc | apply pw_below_drewN | apply below_drew1) | exact HB.out))) : w.heap.size ≤ gb454)); clear HO_5; clear HB; have HO_5 := n0_; have HB := n1_; have BK454 := n2_; have GW454 := n3_; have GE454 := n4_; clear n0_ n1_ n2_ n3_ n4_; clear hb hbox hg; have hcz11_0 : w10.cell? ⟨gb454, 0, none⟩ = some (.int .i64 0) := (blk_cell BK454.out 0).trans rfl; have hcz11_1 : w10.cell? ⟨gb454, 1, none⟩ = some (.int .i64 0) := (blk_cell BK454.out 1).trans rfl; have hfz11_0 := blk_frozen BK454.out 0; have hfz11_1 := blk_frozen BK454.out 1))
                have n0_ : Aside0 (Kd.R k35 35 ((w10.setCell ⟨gb454, 0, none⟩ (.int .i64 ((rd_T35 l0 x11_1).f0))).setCell ⟨gb454, 1, none⟩ (.int .i64 ((rd_T35 l0 x11_1).f1))) w.heap.size (fun k_ => k_ ≠ gb454) u5 x5_1) := ⟨by (with_reducible repeat (first | apply Kd.R_alloc | apply Kd.R_drewN | apply Kd.R_drew)); exact Kd.R_mono (Kd.R_far (p := ⟨gb454, 1, none⟩) (Kd.R_far (p := ⟨gb454, 0, none⟩) (Kd.R_mono HO_5.out (fun k_ hk => (⟨hk, hk.2⟩ : _ ∧ k_ ≠ gb454))) (fun _ hk => hk.2) (.int .i64 ((rd_T35 l0 x11_1).f0))) (fun _ hk => hk.2) (.int .i64 ((rd_T35 l0 x11_1).f1))) (fun _ hk => hk.1.2)⟩
                have n1_ : Aside0 (((w10.setCell ⟨gb454, 0, none⟩ (.int .i64 ((rd_T35 l0 x11_1).f0))).setCell ⟨gb454, 1, none⟩ (.int .i64 ((rd_T35 l0 x11_1).f1))).heap[gb454]? = some (.cells #[.int .i64 ((rd_T35 l0 x11_1).f0), .int .i64 ((rd_T35 l0 x11_1).f1)] 35 (0, 0))) := ⟨by (with_reducible repeat (first | refine blk_drewN ?_ _ | refine blk_drew ?_ | refine blk_alloc ?_ _)); refine blk_put (cs := #[.int .i64 ((rd_T35 l0 x11_1).f0), .int .i64 0]) ?_ 1 _ rfl; (with_reducible repeat (first | refine blk_drewN ?_ _ | refine blk_drew ?_ | refine blk_alloc ?_ _)); refine blk_put (cs := #[.int .i64 0, .int .i64 0]) ?_ 0 _ rfl; (with_reducible repeat (first | refine blk_drewN ?_ _ | refine blk_drew ?_ | refine blk_alloc ?_ _)); exact BK454.out⟩
                have n2_ : Aside0 (Below w.heap.size w ((w10.setCell ⟨gb454, 0, none⟩ (.int .i64 ((rd_T35 l0 x11_1).f0))).setCell ⟨gb454, 1, none⟩ (.int .i64 ((rd_T35 l0 x11_1).f1)))) := ⟨by repeat (first | (with_reducible first | exact HB.out | apply below_alloc | apply pw_below_drewN | apply below_drew1 | refine below_set ?_ GE454.out) | exact HB.out)⟩
                (try clear HO_5)
                (try clear BK454)
                (try clear HB)
                generalize ((w10.setCell ⟨gb454, 0, none⟩ (.int .i64 ((rd_T35 l0 x11_1).f0))).setCell ⟨gb454, 1, none⟩ (.int .i64 ((rd_T35 l0 x11_1).f1))) = w12 at n0_ n1_ n2_ ⊢
                have HO_5 := n0_
                have BK454 := n1_
                have HB := n2_
                clear n0_ n1_ n2_
                have n0_ := Aside0.mk (Kd.R_drew HO_5.out)
                have n1_ := Aside0.mk (blk_drew BK454.out)
                have n2_ := Aside0.mk (below_drew1 HB.out)
                clear HO_5
                clear BK454
                clear HB
                have HO_5 := n0_
                have BK454 := n1_
                have HB := n2_
                clear n0_ n1_ n2_
                have p455 : 0 ≤ (x11_1 : Int) := of_decide_eq_true (by first | (with_reducible assumption) | assumption)
                have q455 : x11_1 < (l1.length : Int) := of_decide_eq_true (by first | (with_reducible assumption) | assumption)
                obtain ⟨ad455, e455, hx455_0⟩ := Kd.at_int HR1.out x11_1 p455 q455
                have hw455_0 := hx455_0
                cases e455
                replace hx455_0 := (HB.out.cell (World.block_lt_of_cell? w _ hx455_0)).trans hx455_0
                replace p455 := eq_true p455
                replace q455 := eq_true q455
                refine start_ (n := 11) (S := fun w' => w'.cell? ⟨gb454, 0, none⟩ = some (.int .i64 ((rd_T35 l0 x11_1).f0)) ∧ w'.cell? ⟨gb454, 1, none⟩ = some (.int .i64 ((rd_T35 l0 x11_1).f1)) ∧ w'.cell? (ad455.add (x11_1).toNat) = some (.int .i64 (rd l1 x11_1))) (ds := []) #[false, false, false, false, false, false, false, false, false, false, false] (by kernel_rfl) rfl rfl ⟨(blk_cell BK454.out 0).trans rfl, (blk_cell BK454.out 1).trans rfl, ((HB.out.cell (World.block_lt_of_cell? w _ hw455_0)).trans hw455_0)⟩ (fun hHeld => ?_); refine with_tabW laws_wnAtTimes.tab5 laws_wnAtTimes.bits5 (fun HT_ HW_ => ?_)
                generalize w12.drew = w13 at HO_5 BK454 HB hx455_0 hHeld ⊢
                refine pure_ (i := 0) (N := some 16) (v := ?_) (a' := ?_) #[true, false, false, false, false, false, false, false, false, false, false] rfl rfl (any_of HT_.out (by kernel_rfl)) (fun _ _ _ h => h) (Or.inl ⟨by rfl, ?_⟩) ?_ ?_
                rotate_left
                · intro w'
                  go_simp
                  with_reducible rfl
                rotate_left
                · simp only [Act.put, List.setIfInBounds_toArray, List.set_cons_zero, List.set_cons_succ, i64_w, i32_w]
                  rfl
                refine pure_ (i := 1) (N := some 17) (v := ?_) (a' := ?_) #[true, true, false, false, false, false, false, false, false, false, false] rfl rfl (any_of HT_.out (by kernel_rfl)) (fun _ _ _ h => h) (Or.inl ⟨by rfl, ?_⟩) ?_ ?_
                rotate_left
                · intro w'
                  go_simp
                  with_reducible rfl
                rotate_left
                · simp only [Act.put, List.setIfInBounds_toArray, List.set_cons_zero, List.set_cons_succ, i64_w, i32_w]
                  rfl
                refine pure_ (i := 2) (N := some 18) (v := ?_) (a' := ?_) #[true, true, true, false, false, false, false, false, false, false, false] rfl rfl (any_of HT_.out (by kernel_rfl)) (fun _ _ _ h => h) (Or.inl ⟨by rfl, ?_⟩) ?_ ?_
                rotate_left
                · intro w'
                  go_simp
                  with_reducible rfl
                rotate_left
                · simp only [Act.put, List.setIfInBounds_toArray, List.set_cons_zero, List.set_cons_succ, i64_w, i32_w]
                  rfl
                refine pure_ (i := 3) (N := some 19) (v := ?_) (a' := ?_) #[true, true, true, true, false, false, false, false, false, false, false] rfl rfl (any_of HT_.out (by kernel_rfl)) (fun _ _ _ h => h) (Or.inl ⟨by rfl, ?_⟩) ?_ ?_
                rotate_left
                · intro w'
                  go_simp
                  with_reducible rfl
                rotate_left
                · simp only [Act.put, List.setIfInBounds_toArray, List.set_cons_zero, List.set_cons_succ, i64_w, i32_w]
                  rfl
                refine pure_ (i := 5) (N := some 21) (v := ?_) (a' := ?_) #[true, true, true, true, false, true, false, false, false, false, false] rfl rfl (any_of HT_.out (by kernel_rfl)) (fun _ _ _ h => h) (Or.inl ⟨by rfl, ?_⟩) ?_ ?_
                rotate_left
                · intro w'
                  go_simp
                  with_reducible rfl
                rotate_left
                · simp only [Act.put, List.setIfInBounds_toArray, List.set_cons_zero, List.set_cons_succ, i64_w, i32_w]
                  rfl
                refine take_ (i := 4) (N := some 20) (v := ?_) (a' := ?_) #[true, true, true, true, true, true, false, false, false, false, false] rfl rfl (take_ofW HT_.out HW_.out (by kernel_rfl)) (fun _ _ _ h => h) (Or.inl ⟨by rfl, ?_⟩) hHeld ?_ ?_
                rotate_left
                · rintro w' ⟨s0, s1, s2⟩
                  go_simp
                  with_reducible rfl
                rotate_left
                · simp only [Act.put, List.setIfInBounds_toArray, List.set_cons_zero, List.set_cons_succ, i64_w, i32_w]
                  rfl
                refine take_ (i := 6) (N := some 22) (v := ?_) (a' := ?_) #[true, true, true, true, true, true, true, false, false, false, false] rfl rfl (take_ofW HT_.out HW_.out (by kernel_rfl)) (fun _ _ _ h => h) (Or.inl ⟨by rfl, ?_⟩) hHeld ?_ ?_
                rotate_left
                · rintro w' ⟨s0, s1, s2⟩
                  go_simp
                  with_reducible rfl
                rotate_left
                · simp only [Act.put, List.setIfInBounds_toArray, List.set_cons_zero, List.set_cons_succ, i64_w, i32_w]
                  rfl
                refine pure_ (i := 7) (N := some 23) (v := ?_) (a' := ?_) #[true, true, true, true, true, true, true, true, false, false, false] rfl rfl (any_of HT_.out (by kernel_rfl)) (fun _ _ _ h => h) (Or.inl ⟨by rfl, ?_⟩) ?_ ?_
                rotate_left
                · intro w'
                  go_simp
                  with_reducible rfl
                rotate_left
                · simp only [Act.put, List.setIfInBounds_toArray, List.set_cons_zero, List.set_cons_succ, i64_w, i32_w]
                  rfl
                refine one_ (i := 8) (N := some 24) #[true, true, true, true, true, true, true, true, true, false, false] rfl rfl (one_of HT_.out (by kernel_rfl)) (by decide) (fun K hK => ?_)
                refine value_ (w1 := ?_) (v := ?_) (by rfl) rfl ?_ ?_
                rotate_left 2
                · go_simp
                  constructor
                  · rfl
                  · rfl
                refine hK.out _ _ ⟨(blk_cell (blk_alloc BK454.out _) 0).trans rfl, (blk_cell (blk_alloc BK454.out _) 1).trans rfl, (World.cell?_alloc_lt _ _ _ (World.block_lt_of_cell? _ _ (((HB.out.cell (World.block_lt_of_cell? w _ hw455_0)).trans hw455_0)))).trans (((HB.out.cell (World.block_lt_of_cell? w _ hw455_0)).trans hw455_0))⟩ (fun hHeld => ?_)
                clear hK K
                refine norm_ (a' := ?_) ?_ ?_
                rotate_left
                · show Act.put _ (some 24) _ = _
                  simp only [Act.put, List.setIfInBounds_toArray, List.set_cons_zero, List.set_cons_succ, i64_w, i32_w]
                  rfl
                refine one_ (i := 9) (N := some 25) #[true, true, true, true, true, true, true, true, true, true, false] rfl rfl (one_of HT_.out (by kernel_rfl)) (by decide) (fun K hK => ?_)
                refine Kd.R_append_step k35 (w0 := w) w.heap.size (by rfl) (.tmp 16) (.tmp 24) 25 35 (.agg #[(.int .i64 0), (.int .i64 0)]) 16 rfl Try.underlying25 info35 rfl (by decide) (by omega) u5 x5_1 (⟨rd l1 x11_1, (rd_T35 l0 x11_1).f1⟩ : S35) [.int .i64 (rd l1 x11_1), .int .i64 ((rd_T35 l0 x11_1).f1)] (fun k_ => k_ ≠ gb454) (fun _ => False) rfl rfl ?aP (fun _ hk => hk.elim) ?aF ?aO ?aB ?aS ?aL ?_
                (case aP => exact k35_mkM _ _ _ (⟨rd l1 x11_1, (rd_T35 l0 x11_1).f1⟩ : S35))
                (case aB => exact (by repeat (first | (with_reducible first | exact HB.out | apply below_alloc | apply pw_below_drewN | apply below_drew1 | refine below_set ?_ GE454.out) | exact HB.out)))
                (case aF => exact (fun k_ hk => Kd.freshB (g := gb454) (o := .cells #[.int .i64 ((rd_T35 l0 x11_1).f0), .int .i64 ((rd_T35 l0 x11_1).f1)] 35 (0, 0)) (by (with_reducible repeat (first | refine blk_drewN ?_ _ | refine blk_drew ?_ | refine blk_alloc ?_ _)); exact BK454.out) k_ hk))
                (case aO => exact (by (with_reducible repeat (first | apply Kd.R_alloc | apply Kd.R_drewN | apply Kd.R_drew)); exact HO_5.out))
                (case aS => exact (below_size (by repeat (first | (with_reducible first | exact HB.out | apply below_alloc | apply pw_below_drewN | apply below_drew1 | refine below_set ?_ GE454.out) | exact HB.out))))
                (case aL => have := LMc9.out; omega)
                intro v457 w14 ho hb hg hat
                rw [← Ny456.out] at ho
                have n0_ := Aside0.mk (blk_grown (g := gb454) (o := .cells #[.int .i64 ((rd_T35 l0 x11_1).f0), .int .i64 ((rd_T35 l0 x11_1).f1)] 35 (0, 0)) (by (with_reducible repeat (first | refine blk_drewN ?_ _ | refine blk_drew ?_ | refine blk_alloc ?_ _)); exact BK454.out) hg (Kd.R_away HO_5.out (fun _ hk => hk)))
                have n1_ := Aside0.mk (hb)
                have n2_ := Aside0.mk (ho)
                clear BK454
                clear HB
                clear HO_5
                have BK454 := n0_
                have HB := n1_
                have HO458 := n2_
                clear n0_ n1_ n2_
                clear ho hb hg hat
                refine hK.out _ _ ⟨(blk_cell BK454.out 0).trans rfl, (blk_cell BK454.out 1).trans rfl, ((HB.out.cell (World.block_lt_of_cell? w _ hw455_0)).trans hw455_0)⟩ (fun hHeld => ?_)
                clear hK K
                refine norm_ (a' := ?_) ?_ ?_
                rotate_left
                · show Act.put _ (some 25) _ = _
                  simp only [Act.put, List.setIfInBounds_toArray, List.set_cons_zero, List.set_cons_succ, i64_w, i32_w]
                  rfl
                refine pure_ (i := 10) (N := some 5) (v := ?_) (a' := ?_) #[true, true, true, true, true, true, true, true, true, true, true] rfl rfl (any_of HT_.out (by kernel_rfl)) (fun _ _ _ h => h) (Or.inl ⟨by rfl, ?_⟩) ?_ ?_
                rotate_left
                · intro w'
                  go_simp
                  with_reducible rfl
                rotate_left
                · simp only [Act.put, List.setIfInBounds_toArray, List.set_cons_zero, List.set_cons_succ, i64_w, i32_w]
                  rfl
                refine done_ (done_of HT_.out (by kernel_rfl)) ?_
                try go_wp2
                go_roundg k1
                case measure => have := HK1.out; omega
                case rel => exact ⟨(y456), (wrap64 (x11_1 + 1)), (by first | rfl | (simp; done) | (simp [*]; done)), H', ⟨by have := HK1.out; omega⟩, ⟨by (with_reducible repeat (first | apply Kd.R_alloc | apply Kd.R_drewN | apply Kd.R_drew)); exact Kd.R_mono HO458.out (fun _ hk => trivial)⟩, ⟨by repeat (first | (with_reducible first | exact HB.out | apply below_alloc | apply pw_below_drewN | apply below_drew1 | refine below_set ?_ GE454.out) | exact HB.out)⟩⟩
              · rw [if_neg c9] at H
                exact absurd H (by simp)
            · rw [if_neg c8] at H
              exact absurd H (by simp)
          · rw [if_neg c7] at H
            exact absurd H (by simp)
        · rw [if_neg c6] at H
          exact absurd H (by simp)
      · rw [if_neg c5] at H
        have c5b0 : decide (x11_1 < (l0.length : Int)) = false := decide_eq_false c5
        clear c5
        obtain rfl := Option.some.inj H
        go_wp2
        go_ret
        exact ⟨_, by first | rfl | (simp [errW_none, errW_some] <;> rfl) | (simp [*, errW_none, errW_some] <;> rfl), by (with_reducible repeat (first | apply Kd.R_alloc | apply Kd.R_drewN | apply Kd.R_drew)); exact HO_5.out, by repeat (first | (with_reducible first | exact HB.out | apply below_alloc | apply pw_below_drewN | apply below_drew1) | exact HB.out)⟩

-- LIB p14shape
theorem ssh_l2 {r b : Int} (hr : 1 ≤ r ∧ r ≤ 20) (hb : 1 ≤ b ∧ b ≤ 100) (l : List S35) (hl : l.length ≤ 1000) (i : Nat) (hi : i < l.length) (hs : 1 ≤ l[i].f1 ∧ l[i].f1 ≤ b) (out : List Int) (ho : out.length ≤ 1000) (k : Nat) (m : Nat) : ∀ (x t : Int), 0 ≤ x → x ≤ b → 0 ≤ t → t + m ≤ 100000 → l[i].f1 ≤ x + r * m → (m = 0 ∨ x + r * ((m : Int) - 1) < l[i].f1) →
    spec_ShapePulses.l2 (k + m + 1) r b l out x (i : Int) t = spec_ShapePulses.l1 k r b l (out ++ [t + m]) (wrap64 (mn b (x + r * m) - l[i].f1)) (t + m) ((i + 1 : Nat) : Int) := by
  induction m with
  | zero =>
    intro x t h0 h1 h2 h3 h4 h5
    rw [show k + 0 + 1 = k + 1 by omega]
    simp only [spec_ShapePulses.l2]
    have h6 : r * ((0 : Nat) : Int) = 0 := by simp
    rw [h6] at h4 ⊢
    have e : mn b (x + 0) = x := by rw [mn_eq]; split <;> omega
    rw [if_pos (by omega), if_pos (by omega), rdP_get l i hi, if_neg (by omega), if_pos (by omega), wrap_succ hi (by omega), e, show t + ((0 : Nat) : Int) = t by omega]
  | succ m ih =>
    intro x t h0 h1 h2 h3 h4 h5
    obtain ⟨q, hq⟩ : ∃ q, q = k + m + 1 := ⟨_, rfl⟩
    rw [← hq] at ih
    rw [show k + (m + 1) + 1 = q + 1 by omega]
    simp only [spec_ShapePulses.l2]
    have hm : 0 ≤ r * (m : Int) := Int.mul_nonneg (by omega) (by omega)
    have e : r * ((m + 1 : Nat) : Int) = r + r * (m : Int) := by rw [Int.natCast_add, Int.mul_add]; simp; omega
    have e2 : r * (((m + 1 : Nat) : Int) - 1) = r * (m : Int) := by congr 1; omega
    have e3 : r * ((m : Int) - 1) = r * (m : Int) - r := by rw [Int.mul_sub]; simp
    rw [e] at h4 ⊢
    rw [e2] at h5
    rw [e3] at ih
    have h5' : x + r * (m : Int) < l[i].f1 := by rcases h5 with h | h; · omega
                                                 · exact h
    generalize r * (m : Int) = z at *
    rw [if_pos (by omega), if_pos (by omega), rdP_get l i hi, if_pos (by omega), wrap_eq (x := x + r) (by omega) (by omega), wrap_eq (x := t + 1) (by omega) (by omega)]
    have hx : mn b (x + r) = if x + r < b then x + r else b := mn_eq b (x + r)
    rw [ih _ (t + 1) (by rw [hx]; split <;> omega) (by rw [hx]; split <;> omega) (by omega) (by omega) (by rw [hx]; split <;> omega) (by
      by_cases hz : m = 0
      · exact Or.inl hz
      · right; rw [hx]; split <;> omega)]
    have e5 : mn b (mn b (x + r) + z) = mn b (x + (r + z)) := by rw [mn_eq, mn_eq, mn_eq]; split <;> split <;> split <;> omega
    rw [e5, show t + 1 + (m : Int) = t + ((m + 1 : Nat) : Int) by omega]
/-- A frame of a size that comes at a time, and when it goes on: at the first time at which there are as many tokens. -/
theorem cdiv {n r : Int} (hr : 1 ≤ r) (hr2 : r ≤ 20) (hn : 0 ≤ n) (hn2 : n ≤ 1000) : n ≤ r * Int.tdiv (n + r - 1) r ∧ r * (Int.tdiv (n + r - 1) r - 1) < n ∧ 0 ≤ Int.tdiv (n + r - 1) r ∧ Int.tdiv (n + r - 1) r ≤ 1000 := by
  rw [Int.tdiv_eq_ediv_of_nonneg (by omega)]
  have h1 := Int.mul_ediv_add_emod (n + r - 1) r
  have h2 := Int.emod_nonneg (n + r - 1) (show r ≠ 0 by omega)
  have h3 := Int.emod_lt_of_pos (n + r - 1) (show 0 < r by omega)
  have h0 : 0 ≤ (n + r - 1) / r := Int.ediv_nonneg (by omega) (by omega)
  have h5 : (n + r - 1) / r ≤ n := by
    apply Int.le_of_lt_add_one
    apply Int.ediv_lt_of_lt_mul (by omega)
    have : n + 1 ≤ (n + 1) * r := by
      have := Int.mul_le_mul_of_nonneg_left hr (show 0 ≤ n + 1 by omega)
      omega
    have : (n + 1) * r = n * r + r := by rw [Int.add_mul]; omega
    have : n ≤ n * r := by
      have := Int.mul_le_mul_of_nonneg_left hr hn
      omega
    omega
  have h6 : r * ((n + r - 1) / r - 1) = r * ((n + r - 1) / r) - r := by rw [Int.mul_sub]; omega
  rw [h6]
  generalize r * ((n + r - 1) / r) = z at *
  omega
theorem mx_eq (a b : Int) : mx a b = if a < b then b else a := rfl
theorem mul_mono {r : Int} (hr : 1 ≤ r) {x y : Int} (h : x ≤ y) : r * x ≤ r * y := Int.mul_le_mul_of_nonneg_left h (by omega)
/-- What a step of the shaper is: the time, and what is left. -/
structure ShOk (r b T a pa ps T' t : Int) : Prop where
  pa_le : pa ≤ t
  a_le : a ≤ t
  lim : t ≤ mx pa a + 100
  left : T' = mn b (T + r * (t - a)) - ps
  pos : 0 ≤ T'
  most : T' ≤ b
  first : t = mx pa a ∨ pa < t ∧ a < t ∧ mn b (T + r * (t - 1 - a)) < ps
theorem shAt_ok {r b T a pa ps : Int} (hr : 1 ≤ r ∧ r ≤ 20) (hb : 1 ≤ b ∧ b ≤ 100) (hT : 0 ≤ T ∧ T ≤ b) (ha : 0 ≤ a ∧ a ≤ 10000) (hp : 0 ≤ pa ∧ pa ≤ 2000) (hs : 1 ≤ ps ∧ ps ≤ b) : ShOk r b T a pa ps (shAt r b T a pa ps).1 (shAt r b T a pa ps).2 := by
  have hm := mx_eq pa a
  have h1 : pa ≤ mx pa a ∧ a ≤ mx pa a ∧ mx pa a ≤ 10000 := by rw [hm]; split <;> omega
  unfold shAt
  generalize hM : mx pa a = t1 at *
  obtain ⟨u1, u2, u3⟩ := untilT_fit (r := r) (b := b) (T := T) (a := a) (t := t1) hr hb (by omega) ha.1 h1.2.1 (by omega)
  have hT1 : 0 ≤ untilT r b T a t1 ∧ untilT r b T a t1 ≤ b := by rw [u1, mn_eq]; split <;> omega
  simp only []
  by_cases c : untilT r b T a t1 < ps
  · rw [if_pos (by rw [wrap_eq (by omega) (by omega)]; omega)]
    obtain ⟨q1, q2, q3, q4⟩ := cdiv (n := ps - untilT r b T a t1) (r := r) hr.1 hr.2 (by omega) (by omega)
    rw [wrap_eq (x := ps - untilT r b T a t1) (by omega) (by omega), wrap_eq (x := ps - untilT r b T a t1 + r) (by omega) (by omega), wrap_eq (x := ps - untilT r b T a t1 + r - 1) (by omega) (by omega)]
    generalize Int.tdiv (ps - untilT r b T a t1 + r - 1) r = m at *
    have hm1 : 1 ≤ m := by
      by_cases h : m = 0
      · subst h; simp at q1; omega
      · omega
    have hm2 : m ≤ 100 := by
      by_cases h : m ≤ 100
      · exact h
      · have := mul_mono hr.1 (show (100 : Int) ≤ m - 1 by omega)
        have : 100 ≤ r * 100 := by omega
        omega
    rw [wrap_eq (x := m) (by omega) (by omega), wrap_eq (x := t1 + m) (by omega) (by omega)]
    obtain ⟨v1, v2, v3⟩ := untilT_fit (r := r) (b := b) (T := untilT r b T a t1) (a := t1) (t := t1 + m) hr hb (by omega) (by omega) (by omega) (by omega)
    have e1 : t1 + m - t1 = m := by omega
    rw [e1] at v1 v2 v3
    have e2 : r * (t1 + m - a) = r * (t1 - a) + r * m := by rw [← Int.mul_add]; congr 1; omega
    have e3 : r * (t1 + m - 1 - a) = r * (t1 - a) + r * (m - 1) := by rw [← Int.mul_add]; congr 1; omega
    have e4 : untilT r b (untilT r b T a t1) t1 (t1 + m) = mn b (T + r * (t1 + m - a)) := by
      rw [v1, u1, e2]
      rw [mn_eq, mn_eq, mn_eq]
      generalize r * m = z at *
      generalize r * (t1 - a) = y at *
      split <;> split <;> split <;> omega
    have e5 : ps ≤ mn b (T + r * (t1 + m - a)) ∧ mn b (T + r * (t1 + m - a)) ≤ b := by
      rw [← e4, v1, mn_eq]
      generalize r * m = z at *
      split <;> omega
    rw [e4, wrap_eq (by omega) (by omega)]
    refine ⟨by omega, by omega, by omega, rfl, by omega, by omega, Or.inr ⟨by omega, by omega, ?_⟩⟩
    show mn b (T + r * (t1 + m - 1 - a)) < ps
    rw [e3]
    rw [u1, mn_eq] at q2 c
    rw [mn_eq]
    generalize r * (m - 1) = z at *
    generalize r * (t1 - a) = y at *
    split at c <;> split <;> omega
  · rw [if_neg (by rw [wrap_eq (by omega) (by omega)]; omega), wrap_eq (by omega) (by omega)]
    refine ⟨by omega, by omega, by omega, ?_, by omega, by omega, Or.inl hM.symm⟩
    rw [u1]
/-- A run of the shaper over frames. -/
inductive ShP (r b : Int) : Int → Int → List S35 → List Int → Prop where
  | nil (T a : Int) : ShP r b T a [] []
  | cons (T a T' t : Int) (p : S35) (l : List S35) (o : List Int) (hT : 0 ≤ T ∧ T ≤ b) (ha : 0 ≤ a ∧ a ≤ 10000) (hp : 0 ≤ p.f0 ∧ p.f0 ≤ 2000) (hs : 1 ≤ p.f1 ∧ p.f1 ≤ b) (ht : t ≤ 10000) (h : ShOk r b T a p.f0 p.f1 T' t) (e : shAt r b T a p.f0 p.f1 = (T', t)) (h2 : ShP r b T' t l o) : ShP r b T a (p :: l) (t :: o)
theorem shL_P {r b : Int} (hr : 1 ≤ r ∧ r ≤ 20) (hb : 1 ≤ b ∧ b ≤ 100) (l : List S35) : ∀ (T a : Int) (c : Nat) (o : List Int), 0 ≤ T → T ≤ b → 0 ≤ a → a ≤ 2000 + 100 * c → c + l.length ≤ 60 → l.all pulseB = true → shL r b T a l = some o → ShP r b T a l o := by
  induction l with
  | nil =>
    intro T a c o _ _ _ _ _ _ h
    rw [shL] at h
    cases h
    exact .nil _ _
  | cons p l ih =>
    intro T a c o h0 h1 h2 h3 h4 h5 h
    rw [List.all_cons, Bool.and_eq_true] at h5
    have hp := h5.1
    unfold pulseB at hp
    simp at hp
    rw [shL] at h
    by_cases cb : b < p.f1
    · rw [if_pos cb] at h; cases h
    rw [if_neg cb] at h
    simp only [List.length_cons] at h4
    have hok := shAt_ok (pa := p.f0) (ps := p.f1) hr hb ⟨h0, h1⟩ ⟨h2, by omega⟩ (by omega) (by omega)
    have hm := mx_eq p.f0 a
    have hlim := hok.lim
    have hle := hok.a_le
    have ht : (shAt r b T a p.f0 p.f1).2 ≤ 2000 + 100 * ((c + 1 : Nat) : Int) := by rw [hm] at hlim; split at hlim <;> omega
    obtain ⟨o2, ho2, rfl⟩ := Option.map_eq_some_iff.1 h
    exact .cons T a _ _ p l o2 ⟨h0, h1⟩ ⟨h2, by omega⟩ (by omega) (by omega) (by omega) hok rfl (ih _ _ (c + 1) o2 hok.pos hok.most (by omega) ht (by omega) h5.2 ho2)
/-- Frames at other times. -/
def atT : List S35 → List Int → List S35
  | p :: l, t :: ts => ⟨t, p.f1⟩ :: atT l ts
  | _, _ => []
theorem ShP.len {r b T a : Int} {l : List S35} {o : List Int} (h : ShP r b T a l o) : o.length = l.length := by
  induction h with
  | nil => rfl
  | cons => simp_all
theorem ShP.at {r b T a : Int} {l : List S35} {o : List Int} (h : ShP r b T a l o) : ∀ i (h1 : i < l.length) (h2 : i < o.length), l[i].f0 ≤ o[i] := by
  induction h with
  | nil => intro i h1; simp at h1
  | cons T a T' t p l o _ _ _ _ _ hok _ _ ih =>
    intro i h1 h2
    cases i with
    | zero => exact hok.pa_le
    | succ i => simpa using ih i (by simpa using h1) (by simpa using h2)
theorem ShP.head {r b T a : Int} {l : List S35} {o : List Int} (h : ShP r b T a l o) : ∀ t ∈ o.head?, a ≤ t := by
  cases h with
  | nil => simp
  | cons _ _ _ _ _ _ _ _ _ _ _ _ hok => intro t ht; simp at ht; subst ht; exact hok.a_le
theorem ShP.up {r b T a : Int} {l : List S35} {o : List Int} (h : ShP r b T a l o) : ∀ i (h1 : i + 1 < o.length), o[i] ≤ o[i + 1] := by
  induction h with
  | nil => intro i h1; simp at h1
  | cons T a T' t p l o _ _ _ _ _ hok _ h2 ih =>
    intro i h1
    cases i with
    | zero =>
      match o, h2, h1 with
      | t2 :: o, h2, _ => exact h2.head t2 (by simp)
    | succ i => simpa using ih i (by simpa using h1)
theorem fit_of (r b T a t : Int) (hr : 1 ≤ r ∧ r ≤ 20) (hb : 1 ≤ b ∧ b ≤ 100) (hT : 0 ≤ T ∧ T ≤ b) (ha : 0 ≤ a) (h : a ≤ t) (ht : t ≤ 10000) : untilT r b T a t = mn b (T + r * (t - a)) ∧ mn b (T + r * (t - a)) ≤ b := by
  obtain ⟨u, _, _⟩ := untilT_fit (r := r) (b := b) (T := T) (a := a) (t := t) hr hb (by omega) ha h (by omega)
  refine ⟨u, ?_⟩
  rw [mn_eq]; split <;> omega
/-- The frames conform at the times at which they go on. -/
theorem ShP.conf {r b : Int} (hr : 1 ≤ r ∧ r ≤ 20) (hb : 1 ≤ b ∧ b ≤ 100) {T a : Int} {l : List S35} {o : List Int} (h : ShP r b T a l o) : (polL r b T a (atT l o)).all id = true := by
  induction h with
  | nil => rfl
  | cons T a T' t p l o hT ha hp hs ht hok _ h2 ih =>
    obtain ⟨u, u2⟩ := fit_of r b T a t hr hb hT ha.1 hok.a_le ht
    have h1 := hok.left
    have h3 := hok.pos
    rw [atT, polL, List.all_cons, Bool.and_eq_true]
    unfold takeOk takeT
    simp only []
    rw [u, if_pos (by omega), wrap_eq (by omega) (by omega), ← h1]
    exact ⟨by simpa using (show p.f1 ≤ mn b (T + r * (t - a)) by omega), ih⟩
/-- They would not, if one went on a step sooner. -/
theorem ShP.sooner {r b : Int} (hr : 1 ≤ r ∧ r ≤ 20) (hb : 1 ≤ b ∧ b ≤ 100) {T a : Int} {l : List S35} {o : List Int} (h : ShP r b T a l o) : ∀ i (h1 : i < l.length) (h2 : i < o.length), o[i] ≠ l[i].f0 → (i = 0 → o[i] ≠ a) → (∀ j (hj : j < o.length), i = j + 1 → o[j] ≠ o[i]) → (polL r b T a (atT (l.take (i + 1)) (o.take i ++ [o[i] - 1]))).all id = false := by
  induction h with
  | nil => intro i h1; simp at h1
  | cons T a T' t p l o hT ha hp hs ht hok _ h2 ih =>
    intro i h1 h3 h4 h5 h6
    cases i with
    | zero =>
      have h4' : t ≠ p.f0 := h4
      have h5' : t ≠ a := h5 rfl
      have hm := mx_eq p.f0 a
      rcases hok.first with e | ⟨e1, e2, e3⟩
      · rw [hm] at e; split at e <;> omega
      · obtain ⟨u, u2⟩ := fit_of r b T a (t - 1) hr hb hT ha.1 (by omega) (by omega)
        show (polL r b T a [⟨t - 1, p.f1⟩]).all id = false
        rw [polL, List.all_cons]
        unfold takeOk
        simp only []
        rw [u, decide_eq_false (by omega)]
        rfl
    | succ i =>
      obtain ⟨u, u2⟩ := fit_of r b T a t hr hb hT ha.1 hok.a_le ht
      have e1 := hok.left
      have e3 := hok.pos
      have hi := ih i (by simpa using h1) (by simpa using h3) (by simpa using h4) (fun e => by
        subst e
        have := h6 0 (by simp) rfl
        simpa using (Ne.symm this)) (fun j hj e => by
        have := h6 (j + 1) (by simpa using hj) (by omega)
        simpa using this)
      show (polL r b T a (⟨t, p.f1⟩ :: atT (l.take (i + 1)) (o.take i ++ [o[i]'(by simpa using h3) - 1]))).all id = false
      rw [polL, List.all_cons]
      unfold takeT
      simp only []
      rw [u, if_pos (by omega), wrap_eq (by omega) (by omega), ← e1, hi, Bool.and_false]
/-- Frames conform just if all go on as they come. -/
theorem ShP.own {r b : Int} (hr : 1 ≤ r ∧ r ≤ 20) (hb : 1 ≤ b ∧ b ≤ 100) {T a : Int} {l : List S35} {o : List Int} (h : ShP r b T a l o) : fromB a l = true → (polL r b T a l).all id = decide (o = l.map (·.f0)) := by
  induction h with
  | nil => intro _; rfl
  | cons T a T' t p l o hT ha hp hs ht hok _ h2 ih =>
    intro hf
    obtain ⟨f1, f2, f3, f4, f5, f6⟩ := fromB_cons hf
    obtain ⟨u, u2⟩ := fit_of r b T a p.f0 hr hb hT ha.1 f1 (by omega)
    have e1 := hok.left
    have e3 := hok.pos
    have e4 := hok.pa_le
    have hm := mx_eq p.f0 a
    rw [polL, List.all_cons]
    unfold takeOk takeT
    rw [u, List.map_cons]
    by_cases c : t = p.f0
    · subst c
      have hi := ih f6
      rw [if_pos (by omega), wrap_eq (by omega) (by omega), ← e1, hi, decide_eq_true (by omega)]
      simp
    · have hc : mn b (T + r * (p.f0 - a)) < p.f1 := by
        rcases hok.first with e | ⟨g1, g2, g3⟩
        · rw [hm] at e; split at e <;> omega
        · have := mul_mono hr.1 (show p.f0 - a ≤ t - 1 - a by omega)
          rw [mn_eq] at g3 ⊢
          split at g3 <;> split <;> omega
      rw [decide_eq_false (by omega), decide_eq_false (fun e => c (List.cons.inj e).1)]
      rfl
/-- Shaped frames go on at their times. -/
theorem ShP.again {r b : Int} (hr : 1 ≤ r ∧ r ≤ 20) (hb : 1 ≤ b ∧ b ≤ 100) {T a : Int} {l : List S35} {o : List Int} (h : ShP r b T a l o) : shL r b T a (atT l o) = some o := by
  induction h with
  | nil => rfl
  | cons T a T' t p l o hT ha hp hs ht hok _ h2 ih =>
    obtain ⟨u, u2⟩ := fit_of r b T a t hr hb hT ha.1 hok.a_le ht
    have e1 := hok.left
    have e3 := hok.pos
    have e5 := hok.a_le
    have hm : mx t a = t := by rw [mx_eq]; split <;> omega
    have e : shAt r b T a t p.f1 = (T', t) := by
      unfold shAt
      simp only []
      rw [hm, u, if_neg (by rw [wrap_eq (by omega) (by omega)]; omega), wrap_eq (by omega) (by omega), ← e1]
    rw [atT, shL, if_neg (by simp only []; omega)]
    simp only []
    rw [e]
    simp only []
    rw [ih]
    rfl
theorem atT_len (l : List S35) : ∀ o : List Int, o.length = l.length → (atT l o).length = l.length := by
  induction l with
  | nil => intro o _; cases o <;> rfl
  | cons p l ih =>
    intro o h
    cases o with
    | nil => simp at h
    | cons t o => rw [atT, List.length_cons, List.length_cons, ih o (by simpa using h)]
theorem ShP.from {r b : Int} {T a : Int} {l : List S35} {o : List Int} (h : ShP r b T a l o) (hb : b ≤ 50 ∨ ∀ p ∈ l, p.f1 ≤ 50) : (∀ t ∈ o, t ≤ 2000) → (atT l o).all pulseB = true ∧ nondec (atT l o) = true := by
  induction h with
  | nil => intro _; exact ⟨rfl, rfl⟩
  | cons T a T' t p l o hT ha hp hs ht hok _ h2 ih =>
    intro hl
    obtain ⟨i1, i2⟩ := ih (by rcases hb with h | h; · exact Or.inl h
                              · exact Or.inr fun q hq => h q (List.mem_cons_of_mem _ hq)) (fun x hx => hl x (List.mem_cons_of_mem _ hx))
    have h5 : p.f1 ≤ 50 := by
      rcases hb with h | h
      · omega
      · exact h p List.mem_cons_self
    have h6 := hl t List.mem_cons_self
    have h7 := hok.a_le
    rw [atT]
    refine ⟨?_, ?_⟩
    · rw [List.all_cons, i1]
      unfold pulseB
      simp
      omega
    · cases h2 with
      | nil => rfl
      | cons _ _ _ t2 p2 l2 o2 _ _ _ _ _ hok2 =>
        rw [atT] at i2 ⊢
        rw [nondec, i2, Bool.and_true]
        exact decide_eq_true hok2.a_le

-- LIB p14ssh
theorem ssh_l1 {r b : Int} (hr : 1 ≤ r ∧ r ≤ 20) (hb : 1 ≤ b ∧ b ≤ 100) (l : List S35) (hl : l.length ≤ 1000) {T a : Int} {l' : List S35} {o : List Int} (h : ShP r b T a l' o) : ∀ (i : Nat) (out : List Int) (k : Nat), l.drop i = l' → out.length + l'.length ≤ 1000 → 110 * l'.length < k → spec_ShapePulses.l1 k r b l out T a (i : Int) = some (out ++ o) := by
  induction h with
  | nil T a =>
    intro i out k h1 h2 h3
    obtain ⟨k, rfl⟩ : ∃ m, k = m + 1 := ⟨k - 1, by omega⟩
    simp only [spec_ShapePulses.l1]
    have h4 : l.length ≤ i := by simpa using h1
    rw [if_neg (by omega), List.append_nil]
  | cons T a T' t p l' o hT ha hp hs ht hok _ h2 ih =>
    intro i out k h1 h3 h4
    have hi : i < l.length := by
      rcases Nat.lt_or_ge i l.length with h | h
      · exact h
      · rw [List.drop_of_length_le h] at h1; cases h1
    have h5 := List.drop_eq_getElem_cons hi
    rw [h1] at h5
    obtain ⟨e1, e2⟩ := List.cons.inj h5
    obtain ⟨q, rfl⟩ : ∃ q, k = q + 1 := ⟨k - 1, by omega⟩
    simp only [spec_ShapePulses.l1]
    simp only [List.length_cons] at h3 h4
    rw [if_pos (by omega), if_pos (by omega), rdP_get l i hi, ← e1]
    have hm : mx a p.f0 = mx p.f0 a := by rw [mx_eq, mx_eq]; split <;> split <;> omega
    rw [hm]
    have hM := mx_eq p.f0 a
    have h6 : p.f0 ≤ mx p.f0 a ∧ a ≤ mx p.f0 a ∧ mx p.f0 a ≤ 10000 := by rw [hM]; split <;> omega
    have hlim := hok.lim
    have hfirst := hok.first
    have hle : mx p.f0 a ≤ t := by have := hok.pa_le; have := hok.a_le; rw [hM]; split <;> omega
    generalize mx p.f0 a = t1 at *
    obtain ⟨u, u2⟩ := fit_of r b T a t1 hr hb hT ha.1 h6.2.1 h6.2.2
    have u' : mn b (wrap64 (T + wrap64 (r * wrap64 (t1 - a)))) = mn b (T + r * (t1 - a)) := u
    have hz : 0 ≤ r * (t1 - a) := Int.mul_nonneg (by omega) (by omega)
    obtain ⟨m, hm2⟩ := Int.eq_ofNat_of_zero_le (show 0 ≤ t - t1 by omega)
    have et : t1 + (m : Int) = t := by omega
    have a1 := hok.left
    have a2 := hok.pos
    have a3 := hok.most
    have e5 : r * (t - a) = r * (t1 - a) + r * (m : Int) := by rw [← Int.mul_add]; congr 1; omega
    have e6 : r * (t - 1 - a) = r * (t1 - a) + r * ((m : Int) - 1) := by rw [← Int.mul_add]; congr 1; omega
    have hz2 : 0 ≤ r * (m : Int) := Int.mul_nonneg (by omega) (by omega)
    have e7 : mn b (mn b (T + r * (t1 - a)) + r * (m : Int)) = mn b (T + r * (t - a)) := by
      rw [e5, mn_eq, mn_eq, mn_eq]
      generalize r * (m : Int) = z at *
      generalize r * (t1 - a) = y at *
      split <;> split <;> split <;> omega
    have c1 : p.f1 ≤ mn b (T + r * (t1 - a)) + r * (m : Int) := by
      rw [mn_eq] at e7 a1
      rw [e5] at a1
      rw [mn_eq]
      generalize r * (m : Int) = z at *
      generalize r * (t1 - a) = y at *
      split at a1 <;> split <;> omega
    have c2 : m = 0 ∨ mn b (T + r * (t1 - a)) + r * ((m : Int) - 1) < p.f1 := by
      by_cases hm0 : m = 0
      · exact Or.inl hm0
      · right
        rcases hfirst with e | ⟨_, _, g3⟩
        · omega
        · rw [e6, mn_eq] at g3
          rw [mn_eq]
          generalize r * ((m : Int) - 1) = z at *
          generalize r * (t1 - a) = y at *
          split at g3 <;> split <;> omega
    rw [u']
    obtain ⟨k, rfl⟩ : ∃ k, q = k + m + 1 := ⟨q - m - 1, by omega⟩
    have hx : 0 ≤ mn b (T + r * (t1 - a)) := by rw [mn_eq]; split <;> omega
    have key := ssh_l2 hr hb l hl i hi (by rw [← e1]; exact hs) out (by omega) k m (mn b (T + r * (t1 - a))) t1 hx u2 (by omega) (by omega) (by rw [← e1]; exact c1) (by rw [← e1]; exact c2)
    rw [key, ← e1, et, e7, wrap_eq (by omega) (by omega), ← a1, ih (i + 1) (out ++ [t]) k e2.symm (by simp; omega) (by omega), List.append_assoc]
    rfl
theorem shL_big {r b : Int} (l : List S35) : ∀ (T a : Int), l.any (fun p => decide (b < p.f1)) = true → shL r b T a l = none := by
  induction l with
  | nil => intro _ _ h; simp at h
  | cons p l ih =>
    intro T a h
    rw [shL]
    by_cases c : b < p.f1
    · rw [if_pos c]
    · rw [if_neg c]
      rw [List.any_cons, decide_eq_false c, Bool.false_or] at h
      rw [ih _ _ h]; rfl
theorem shL_small {r b : Int} (l : List S35) : ∀ (T a : Int), l.any (fun p => decide (b < p.f1)) = false → ∃ o, shL r b T a l = some o := by
  induction l with
  | nil => intro _ _ _; exact ⟨[], rfl⟩
  | cons p l ih =>
    intro T a h
    rw [List.any_cons, Bool.or_eq_false_iff] at h
    obtain ⟨o, ho⟩ := ih (shAt r b T a p.f0 p.f1).1 (shAt r b T a p.f0 p.f1).2 h.2
    rw [shL, if_neg (by simpa using h.1), ho]
    exact ⟨_, rfl⟩
theorem ssh_l0 (r b : Int) (l : List S35) (hl : l.length ≤ 9223372036854775807) (k : Nat) (d : Nat) : ∀ (i : Nat), i + d = l.length → spec_ShapePulses.l0 (k + d + 1) r b l [] (i : Int) = if (l.drop i).any (fun p => decide (b < p.f1)) = true then some [] else ((spec_l14Fits.f k r b l).bind fun t399 => (if t399 = true then (spec_ShapePulses.l1 k r b l [] b 0 0) else (some []))) := by
  induction d with
  | zero =>
    intro i h
    simp only [spec_ShapePulses.l0]
    rw [if_neg (by omega), List.drop_of_length_le (by omega), if_neg (by simp)]
  | succ d ih =>
    intro i h
    obtain ⟨q, hq⟩ : ∃ q, q = k + d + 1 := ⟨_, rfl⟩
    rw [← hq] at ih
    rw [show k + (d + 1) + 1 = q + 1 by omega]
    simp only [spec_ShapePulses.l0]
    rw [if_pos (by omega), if_pos (by omega), rdP_get l i (by omega), List.drop_eq_getElem_cons (show i < l.length by omega), List.any_cons, wrap_succ (show i < l.length by omega) (by omega), ih (i + 1) (by omega)]
    by_cases c : l[i].f1 > b
    · rw [if_pos c, decide_eq_true (show b < l[i].f1 from c), Bool.true_or, if_pos rfl]
    · rw [if_neg c, decide_eq_false (show ¬ b < l[i].f1 from c), Bool.false_or]
/-- What shaping answers where it answers something. -/
theorem shF_P {r b : Int} {l : List S35} {o : List Int} (hf : fitsB r b l = true) (h : shL r b b 0 l = some o) : ShP r b b 0 l o := by
  obtain ⟨f1, f2, f3, f4, f5, f6⟩ := fitsB_facts hf
  have hp : l.all pulseB = true := by
    unfold pvB at f1
    simp only [Bool.and_eq_true] at f1
    exact f1.1.1
  exact shL_P ⟨f3, f4⟩ ⟨f5, f6⟩ l b 0 0 o (by omega) (by omega) (by omega) (by omega) (by omega) hp h
theorem ssh_eq (r b : Int) (l : List S35) (hl : l.length ≤ 9223372036854775807) (k : Nat) (hk : 2 * l.length + 10000 < k) : spec_ShapePulses.f k r b l = some (shF r b l) := by
  unfold spec_ShapePulses.f
  obtain ⟨q, rfl⟩ : ∃ q, k = q + l.length + 1 := ⟨k - l.length - 1, by omega⟩
  have h0 := ssh_l0 r b l hl q l.length 0 (by omega)
  rw [List.drop_zero] at h0
  refine Eq.trans h0 ?_
  rw [sfits_eq r b l hl q (by omega), Option.bind_some]
  unfold shF
  cases hbig : l.any (fun p => decide (b < p.f1)) with
  | true => rw [if_pos rfl, shL_big l b 0 hbig]; simp
  | false =>
    rw [if_neg (by decide)]
    cases hf : fitsB r b l with
    | false => rw [if_neg (by decide), if_neg (by decide)]
    | true =>
      obtain ⟨o, ho⟩ := shL_small (r := r) l b 0 hbig
      obtain ⟨f1, f2, f3, f4, f5, f6⟩ := fitsB_facts hf
      rw [if_pos rfl, if_pos rfl, ho]
      exact (ssh_l1 ⟨f3, f4⟩ ⟨f5, f6⟩ l (by omega) (shF_P hf ho) 0 [] q (by rfl) (by simp; omega) (by omega))
theorem ish_eq (r b : Int) (l : List S35) : impl_ShapePulses.f r b l = some (shF r b l) := rfl
theorem wnAt_at (l : List S35) (ts : List Int) (hl : l.length ≤ 1000) (ht : ts.length = l.length) (d : Nat) : ∀ (k i : Nat) (acc : List S35), i + d = l.length → acc.length ≤ i → d < k → laws_wnAtTimes.l0 k ts acc l l.length (i : Int) = some (acc ++ atT (l.drop i) (ts.drop i)) := by
  induction d with
  | zero =>
    intro k i acc h1 h2 hk
    obtain ⟨k, rfl⟩ : ∃ m, k = m + 1 := ⟨k - 1, by omega⟩
    simp only [laws_wnAtTimes.l0]
    rw [if_neg (by omega), List.drop_of_length_le (by omega), atT]
    · simp
    · simp
  | succ d ih =>
    intro k i acc h1 h2 hk
    obtain ⟨k, rfl⟩ : ∃ m, k = m + 1 := ⟨k - 1, by omega⟩
    simp only [laws_wnAtTimes.l0]
    rw [if_pos (by omega), if_pos (by omega), if_pos (by omega), if_pos (by omega), if_pos (by omega), rdP_get l i (by omega), rd_get ts i (by omega), wrap_succ (show i < l.length by omega) (by omega), ih k (i + 1) _ (by omega) (by simp; omega) (by omega), List.drop_eq_getElem_cons (show i < l.length by omega), List.drop_eq_getElem_cons (show i < ts.length by omega), atT, List.append_assoc]
    rfl
theorem wnAt_eq (l : List S35) (ts : List Int) (hl : l.length ≤ 1000) (ht : ts.length = l.length) (k : Nat) (hk : l.length < k) : laws_wnAtTimes.f k l ts = some (atT l ts) :=
  (wnAt_at l ts hl ht l.length k 0 [] (by omega) (by simp) hk).trans (by simp)
/-- What shaping answers, in one of two ways. -/
theorem shF_cases (r b : Int) (l : List S35) : shF r b l = [] ∨ fitsB r b l = true ∧ ShP r b b 0 l (shF r b l) := by
  unfold shF
  cases hf : fitsB r b l with
  | false => exact Or.inl (if_neg (by decide))
  | true =>
    rw [if_pos rfl]
    cases h : shL r b b 0 l with
    | none => exact Or.inl rfl
    | some o => exact Or.inr ⟨rfl, shF_P hf h⟩
/-- Shaped frames are frames again. -/
theorem ShP.fits {r b : Int} {l : List S35} {o : List Int} (hf : fitsB r b l = true) (h : ShP r b b 0 l o) (h2 : ∀ t ∈ o, t ≤ 2000) : fitsB r b (atT l o) = true := by
  obtain ⟨f1, f2, f3, f4, f5, f6⟩ := fitsB_facts hf
  have hp : ∀ p ∈ l, p.f1 ≤ 50 := by
    unfold pvB at f1
    simp only [Bool.and_eq_true] at f1
    intro p hp
    have := List.all_eq_true.1 f1.1.1 p hp
    unfold pulseB at this
    simp at this
    omega
  obtain ⟨g1, g2⟩ := h.from (Or.inr hp) h2
  have hlen := atT_len l o h.len
  unfold fitsB pvB
  rw [g1, g2, hlen]
  simp
  omega
theorem shape_conf {r b : Int} {l : List S35} {o : List Int} (hf : fitsB r b l = true) (h : ShP r b b 0 l o) (h2 : ∀ t ∈ o, t ≤ 2000) : confF r b (atT l o) = true := by
  obtain ⟨f1, f2, f3, f4, f5, f6⟩ := fitsB_facts hf
  have hfit := h.fits hf h2
  unfold confF polF
  rw [hfit, if_pos rfl, h.conf ⟨f3, f4⟩ ⟨f5, f6⟩]
  rfl

end Go.Proofs.Ytfbicfnokibobaa.PAll

/- Proved here: contracts of functions of the given program, or lemmas on them, for the laws of this seat. Written by xprint.py, a program of this session, on the ground of the kit's print; parts by hand: wip/x/ext. -/
import Derived.Test.YtfbicfnokibobaaPAllx0
import Derived.Test.YtfbicfnokibobaaPAllx2
import Derived.Test.YtfbicfnokibobaaPAllx3
import Derived.Test.YtfbicfnokibobaaPAllx10
namespace Go.Proofs.Ytfbicfnokibobaa.PAll
open Go.RowKit Go.Proofs.YtfbicfnokibobaaW.PrintWords Go.Proofs.YtfbicfnokibobaaW.PrintLast Go.Proofs.YtfbicfnokibobaaW.PrintMore
attribute [local go_sem] max2_int min2_int max_two min_two max_three min_three max_four min_four   -- for this text's walks alone
set_option linter.unusedVariables false
set_option linter.unusedSimpArgs false

/-! ### spec_TokensAt: function 15 -/
mutual
def spec_TokensAt.j0 : Nat → Int → Int → List (S35) → Int → Bool → Option (Int)
  | 0, _, _, _, _, _ => none
  | k + 1, x0, x1, x2, x3, x22 => if x22 = true then (some (-1)) else ((spec_PolicePulses.f k x0 x1 x2).bind fun t125 => (spec_TokensAt.l0 k x0 x1 x2 x3 t125 x1 0))
def spec_TokensAt.l0 : Nat → Int → Int → List (S35) → Int → List Bool → Int → Int → Option (Int)
  | 0, _, _, _, _, _, _, _ => none
  | k + 1, x0, x1, x2, x3, x9, x10, x11 => if x11 ≤ x3 then (if x11 > 0 then (spec_TokensAt.j2 k x0 x1 x2 x3 x9 (mn x1 (wrap64 (x10 + x0))) x11) else (spec_TokensAt.j2 k x0 x1 x2 x3 x9 x10 x11)) else (some x10)
def spec_TokensAt.j2 : Nat → Int → Int → List (S35) → Int → List Bool → Int → Int → Option (Int)
  | 0, _, _, _, _, _, _, _ => none
  | k + 1, x0, x1, x2, x3, x9, x10, x11 => spec_TokensAt.l1 k x0 x1 x2 x3 x9 x10 x11 0
def spec_TokensAt.l1 : Nat → Int → Int → List (S35) → Int → List Bool → Int → Int → Int → Option (Int)
  | 0, _, _, _, _, _, _, _, _ => none
  | k + 1, x0, x1, x2, x3, x9, x10, x11, x12 => if x12 < (x2.length : Int) then (if 0 ≤ x12 then (if ((rd_T35 x2 x12).f0) = x11 then (if x12 < (x9.length : Int) then (if rdOf false x9 x12 = true then (spec_TokensAt.l1 k x0 x1 x2 x3 x9 (wrap64 (x10 - ((rd_T35 x2 x12).f1))) x11 (wrap64 (x12 + 1))) else (spec_TokensAt.l1 k x0 x1 x2 x3 x9 x10 x11 (wrap64 (x12 + 1)))) else (none)) else (spec_TokensAt.l1 k x0 x1 x2 x3 x9 x10 x11 (wrap64 (x12 + 1)))) else (none)) else (spec_TokensAt.l0 k x0 x1 x2 x3 x9 x10 (wrap64 (x11 + 1)))
end
def spec_TokensAt.f (k : Nat) (a0 : Int) (a1 : Int) (l2 : List (S35)) (a3 : Int) : Option (Int) := (spec_l14Fits.f k a0 a1 l2).bind fun t123 => (if t123 = true then ((spec_l1In.f a3 0 2000).bind fun t124 => (spec_TokensAt.j0 k a0 a1 l2 a3 (!t124))) else (spec_TokensAt.j0 k a0 a1 l2 a3 true))
theorem spec_TokensAt.mono_l : ∀ k, (∀ y0 y1 y2 y3 y4, LeO (spec_TokensAt.j0 k y0 y1 y2 y3 y4) (spec_TokensAt.j0 (k + 1) y0 y1 y2 y3 y4)) ∧ (∀ y0 y1 y2 y3 y4 y5 y6, LeO (spec_TokensAt.l0 k y0 y1 y2 y3 y4 y5 y6) (spec_TokensAt.l0 (k + 1) y0 y1 y2 y3 y4 y5 y6)) ∧ (∀ y0 y1 y2 y3 y4 y5 y6, LeO (spec_TokensAt.j2 k y0 y1 y2 y3 y4 y5 y6) (spec_TokensAt.j2 (k + 1) y0 y1 y2 y3 y4 y5 y6)) ∧ (∀ y0 y1 y2 y3 y4 y5 y6 y7, LeO (spec_TokensAt.l1 k y0 y1 y2 y3 y4 y5 y6 y7) (spec_TokensAt.l1 (k + 1) y0 y1 y2 y3 y4 y5 y6 y7))
  | 0 => ⟨fun _ _ _ _ _ r h => by simp [spec_TokensAt.j0] at h, fun _ _ _ _ _ _ _ r h => by simp [spec_TokensAt.l0] at h, fun _ _ _ _ _ _ _ r h => by simp [spec_TokensAt.j2] at h, fun _ _ _ _ _ _ _ _ r h => by simp [spec_TokensAt.l1] at h⟩
  | k + 1 => by
    obtain ⟨ih0, ih1, ih2, ih3⟩ := spec_TokensAt.mono_l k
    refine ⟨?_, ?_, ?_, ?_⟩
    · intro y0 y1 y2 y3 y4
      unfold spec_TokensAt.j0
      repeat' first
      | (with_reducible exact ih0 _ _ _ _ _)
      | (with_reducible exact ih1 _ _ _ _ _ _ _)
      | (with_reducible exact ih2 _ _ _ _ _ _ _)
      | (with_reducible exact ih3 _ _ _ _ _ _ _ _)
      | (with_reducible exact spec_PolicePulses.mono _ _ _ _)
      | (with_reducible exact spec_l14Fits.mono _ _ _ _)
      | (with_reducible exact LeO.refl _)
      | (with_reducible exact LeO.none _)
      | (with_reducible refine LeO.ite ?_ ?_)
      | (with_reducible refine LeO.bind ?_ (fun _ => ?_))
      | exact ih0 _ _ _ _ _
      | exact ih1 _ _ _ _ _ _ _
      | exact ih2 _ _ _ _ _ _ _
      | exact ih3 _ _ _ _ _ _ _ _
      | exact spec_PolicePulses.mono _ _ _ _
      | exact spec_l14Fits.mono _ _ _ _
      | exact LeO.none _
      | refine LeO.ite ?_ ?_
      | refine LeO.bind ?_ (fun _ => ?_)
    · intro y0 y1 y2 y3 y4 y5 y6
      unfold spec_TokensAt.l0
      repeat' first
      | (with_reducible exact ih0 _ _ _ _ _)
      | (with_reducible exact ih1 _ _ _ _ _ _ _)
      | (with_reducible exact ih2 _ _ _ _ _ _ _)
      | (with_reducible exact ih3 _ _ _ _ _ _ _ _)
      | (with_reducible exact spec_PolicePulses.mono _ _ _ _)
      | (with_reducible exact spec_l14Fits.mono _ _ _ _)
      | (with_reducible exact LeO.refl _)
      | (with_reducible exact LeO.none _)
      | (with_reducible refine LeO.ite ?_ ?_)
      | (with_reducible refine LeO.bind ?_ (fun _ => ?_))
      | exact ih0 _ _ _ _ _
      | exact ih1 _ _ _ _ _ _ _
      | exact ih2 _ _ _ _ _ _ _
      | exact ih3 _ _ _ _ _ _ _ _
      | exact spec_PolicePulses.mono _ _ _ _
      | exact spec_l14Fits.mono _ _ _ _
      | exact LeO.none _
      | refine LeO.ite ?_ ?_
      | refine LeO.bind ?_ (fun _ => ?_)
    · intro y0 y1 y2 y3 y4 y5 y6
      unfold spec_TokensAt.j2
      repeat' first
      | (with_reducible exact ih0 _ _ _ _ _)
      | (with_reducible exact ih1 _ _ _ _ _ _ _)
      | (with_reducible exact ih2 _ _ _ _ _ _ _)
      | (with_reducible exact ih3 _ _ _ _ _ _ _ _)
      | (with_reducible exact spec_PolicePulses.mono _ _ _ _)
      | (with_reducible exact spec_l14Fits.mono _ _ _ _)
      | (with_reducible exact LeO.refl _)
      | (with_reducible exact LeO.none _)
      | (with_reducible refine LeO.ite ?_ ?_)
      | (with_reducible refine LeO.bind ?_ (fun _ => ?_))
      | exact ih0 _ _ _ _ _
      | exact ih1 _ _ _ _ _ _ _
      | exact ih2 _ _ _ _ _ _ _
      | exact ih3 _ _ _ _ _ _ _ _
      | exact spec_PolicePulses.mono _ _ _ _
      | exact spec_l14Fits.mono _ _ _ _
      | exact LeO.none _
      | refine LeO.ite ?_ ?_
      | refine LeO.bind ?_ (fun _ => ?_)
    · intro y0 y1 y2 y3 y4 y5 y6 y7
      unfold spec_TokensAt.l1
      repeat' first
      | (with_reducible exact ih0 _ _ _ _ _)
      | (with_reducible exact ih1 _ _ _ _ _ _ _)
      | (with_reducible exact ih2 _ _ _ _ _ _ _)
      | (with_reducible exact ih3 _ _ _ _ _ _ _ _)
      | (with_reducible exact spec_PolicePulses.mono _ _ _ _)
      | (with_reducible exact spec_l14Fits.mono _ _ _ _)
      | (with_reducible exact LeO.refl _)
      | (with_reducible exact LeO.none _)
      | (with_reducible refine LeO.ite ?_ ?_)
      | (with_reducible refine LeO.bind ?_ (fun _ => ?_))
      | exact ih0 _ _ _ _ _
      | exact ih1 _ _ _ _ _ _ _
      | exact ih2 _ _ _ _ _ _ _
      | exact ih3 _ _ _ _ _ _ _ _
      | exact spec_PolicePulses.mono _ _ _ _
      | exact spec_l14Fits.mono _ _ _ _
      | exact LeO.none _
      | refine LeO.ite ?_ ?_
      | refine LeO.bind ?_ (fun _ => ?_)
theorem spec_TokensAt.mono : ∀ a0 a1 a2 a3 k, LeO (spec_TokensAt.f k a0 a1 a2 a3) (spec_TokensAt.f (k + 1) a0 a1 a2 a3) := by
  intro a0 a1 a2 a3 k
  obtain ⟨ih0, ih1, ih2, ih3⟩ := spec_TokensAt.mono_l k
  unfold spec_TokensAt.f
  repeat' first
      | (with_reducible exact ih0 _ _ _ _ _)
      | (with_reducible exact ih1 _ _ _ _ _ _ _)
      | (with_reducible exact ih2 _ _ _ _ _ _ _)
      | (with_reducible exact ih3 _ _ _ _ _ _ _ _)
      | (with_reducible exact spec_PolicePulses.mono _ _ _ _)
      | (with_reducible exact spec_l14Fits.mono _ _ _ _)
      | (with_reducible exact LeO.refl _)
      | (with_reducible exact LeO.none _)
      | (with_reducible refine LeO.ite ?_ ?_)
      | (with_reducible refine LeO.bind ?_ (fun _ => ?_))
      | exact ih0 _ _ _ _ _
      | exact ih1 _ _ _ _ _ _ _
      | exact ih2 _ _ _ _ _ _ _
      | exact ih3 _ _ _ _ _ _ _ _
      | exact spec_PolicePulses.mono _ _ _ _
      | exact spec_l14Fits.mono _ _ _ _
      | exact LeO.none _
      | refine LeO.ite ?_ ?_
      | refine LeO.bind ?_ (fun _ => ?_)
set_option maxHeartbeats 8000000 in
set_option maxRecDepth 100000 in
theorem spec_TokensAt.calls (k : Nat) (a0 : Int) (a1 : Int) (A2 : Option Addr) (c2 : Nat) (l2 : List (S35)) (a3 : Int) (r : Int) (w : World) (hr2 : Kd.C k35 w A2 l2.length l2) (hc2 : l2.length ≤ c2) (h : spec_TokensAt.f k a0 a1 l2 a3 = some r) :
    Calls Try.prog 15 #[.int .i64 a0, .int .i64 a1, .slice A2 l2.length c2, .int .i64 a3] w fun e w' => e = .returned (.int .i64 r) ∧ Below w.heap.size w w' := by
  have HR2 := Aside0.mk hr2
  have HC2 := Aside0.mk hc2
  clear hr2 hc2
  have HB := Aside0.mk (Below.refl w.heap.size w)
  have H : ((spec_l14Fits.f k a0 a1 l2).bind fun t123 => (if t123 = true then ((spec_l1In.f a3 0 2000).bind fun t124 => (spec_TokensAt.j0 k a0 a1 l2 a3 (!t124))) else (spec_TokensAt.j0 k a0 a1 l2 a3 true))) = some r := h
  clear h
  have HC5 := Aside0.mk H
  clear H
  go_enter Try.func15, Try.ntmps15
  go_upto_region 1 with (fail)
  go_cut [22] (fun v22 wc => ∃ (kq : Nat) (x22_4 : Bool), v22 = .bool x22_4 ∧ Aside0 (spec_TokensAt.j0 kq a0 a1 l2 a3 x22_4 = some r) ∧ Aside0 (kq ≤ k) ∧ Aside0 (Below w.heap.size w wc))
  case first =>
    have H := HC5.out
    clear HC5
    replace H := Option.bind_eq_some_iff.mp H
    obtain ⟨t123, A60, H⟩ := H
    replace H : (if t123 = true then ((spec_l1In.f a3 0 2000).bind fun t124 => (spec_TokensAt.j0 k a0 a1 l2 a3 (!t124))) else (spec_TokensAt.j0 k a0 a1 l2 a3 true)) = some r := H
    have A6 := Aside0.mk A60
    clear A60
    by_cases c7 : t123 = true
    · subst c7
      have H1 : ((spec_l1In.f a3 0 2000).bind fun t124 => (spec_TokensAt.j0 k a0 a1 l2 a3 (!t124))) = some r := by rw [if_pos rfl] at H; exact H
      clear H
      have H := H1
      clear H1
      replace H := Option.bind_eq_some_iff.mp H
      obtain ⟨t124, A80, H⟩ := H
      replace H : (spec_TokensAt.j0 k a0 a1 l2 a3 (!t124)) = some r := H
      have A8 := Aside0.mk A80
      clear A80
      have H' := Aside0.mk H
      clear H
      go_wp2_with (first | ((with_reducible refine gate_callee (f := 40) rfl ?_); refine goesL_ (some 16) rfl rfl Try.func40 (by kernel_rfl) rfl #[.int .i64 a0, .int .i64 a1, .slice A2 l2.length c2] rfl (by (try simp only [List.map_toArray, List.map_cons, List.map_nil]); first | done | rfl | (simp only [List.length_drop, List.length_take]; rfl)) ?_; (with_reducible refine (spec_l14Fits.calls k a0 a1 _ _ l2 true _ ?side1 ?side2 A6.out).mono ?_); (case side1 => repeat (first | exact (Kd.C_below HR2.out HB.out) | (with_reducible refine Kd.C_alloc ?_ _) | (with_reducible refine Kd.C_drewN ?_ _) | (with_reducible refine Kd.C_drew ?_))); (case side2 => exact HC2.out); rintro e w9 ⟨rfl, hb⟩; refine ⟨_, rfl, ?_⟩; have n0_ := Aside0.mk (below_step (by repeat (first | (with_reducible first | exact HB.out | apply below_alloc | apply pw_below_drewN | apply below_drew1) | exact HB.out)) hb); clear HB; have HB := n0_; clear n0_; (try clear hb); (try clear hb2); (try clear hk); (try clear hi)) | (go_at_call 41; (with_reducible refine (spec_l1In.calls a3 0 2000 t124 _ A8.out).mono ?_); rintro e w' ⟨rfl, ⟨nd, rfl⟩⟩))
      go_meet
      case rel => exact ⟨_, (!t124), (by first | rfl | (simp; done) | (simp [*]; done)), H', ⟨by first | omega | exact Nat.le_refl _⟩, ⟨by repeat (first | (with_reducible first | exact HB.out | apply below_alloc | apply pw_below_drewN | apply below_drew1) | exact HB.out)⟩⟩
    · replace c7 := Bool.eq_false_iff.mpr c7
      subst c7
      have H1 : (spec_TokensAt.j0 k a0 a1 l2 a3 true) = some r := by rw [if_neg (show ¬ (false = true) by decide)] at H; exact H
      clear H
      have H := H1
      clear H1
      have H' := Aside0.mk H
      clear H
      go_wp2_with (first | ((with_reducible refine gate_callee (f := 40) rfl ?_); refine goesL_ (some 16) rfl rfl Try.func40 (by kernel_rfl) rfl #[.int .i64 a0, .int .i64 a1, .slice A2 l2.length c2] rfl (by (try simp only [List.map_toArray, List.map_cons, List.map_nil]); first | done | rfl | (simp only [List.length_drop, List.length_take]; rfl)) ?_; (with_reducible refine (spec_l14Fits.calls k a0 a1 _ _ l2 false _ ?side1 ?side2 A6.out).mono ?_); (case side1 => repeat (first | exact (Kd.C_below HR2.out HB.out) | (with_reducible refine Kd.C_alloc ?_ _) | (with_reducible refine Kd.C_drewN ?_ _) | (with_reducible refine Kd.C_drew ?_))); (case side2 => exact HC2.out); rintro e w10 ⟨rfl, hb⟩; refine ⟨_, rfl, ?_⟩; have n0_ := Aside0.mk (below_step (by repeat (first | (with_reducible first | exact HB.out | apply below_alloc | apply pw_below_drewN | apply below_drew1) | exact HB.out)) hb); clear HB; have HB := n0_; clear n0_; (try clear hb); (try clear hb2); (try clear hk); (try clear hi)))
      go_meet
      case rel => exact ⟨_, (true), (by first | rfl | (simp; done) | (simp [*]; done)), H', ⟨by first | omega | exact Nat.le_refl _⟩, ⟨by repeat (first | (with_reducible first | exact HB.out | apply below_alloc | apply pw_below_drewN | apply below_drew1) | exact HB.out)⟩⟩
  case rest =>
    clear HC5
    try clear c1
    try clear c2
    try clear p2
    try clear c4
    try clear c7
    obtain ⟨kq, x22_4, rfl, HA, HJ4, HB⟩ := hcut
    cases kq with
    | zero => exact absurd HA.out (by simp [spec_TokensAt.j0])
    | succ kj4 =>
      have H := HA.out
      clear HA
      simp only [spec_TokensAt.j0] at H
      by_cases c11 : x22_4 = true
      · subst c11
        have H1 : (some (-1)) = some r := by rw [if_pos rfl] at H; exact H
        clear H
        have H := H1
        clear H1
        obtain rfl := Option.some.inj H
        go_wp2
        go_ret
        exact ⟨by first | rfl | (simp [errW_none, errW_some] <;> rfl) | (simp [*, errW_none, errW_some] <;> rfl), by repeat (first | (with_reducible first | exact HB.out | apply below_alloc | apply pw_below_drewN | apply below_drew1) | exact HB.out)⟩
      · replace c11 := Bool.eq_false_iff.mpr c11
        subst c11
        have H1 : ((spec_PolicePulses.f kj4 a0 a1 l2).bind fun t125 => (spec_TokensAt.l0 kj4 a0 a1 l2 a3 t125 a1 0)) = some r := by rw [if_neg (show ¬ (false = true) by decide)] at H; exact H
        clear H
        have H := H1
        clear H1
        replace H := Option.bind_eq_some_iff.mp H
        obtain ⟨t125, A120, H⟩ := H
        replace H : (spec_TokensAt.l0 kj4 a0 a1 l2 a3 t125 a1 0) = some r := H
        have A12 := Aside0.mk A120
        clear A120
        have H' := Aside0.mk H
        clear H
        go_wp2_with (first | ((with_reducible refine gate_callee (f := 21) rfl ?_); refine goesL_ (some 26) rfl rfl Try.func21 (by kernel_rfl) rfl #[.int .i64 a0, .int .i64 a1, .slice A2 l2.length c2] rfl (by (try simp only [List.map_toArray, List.map_cons, List.map_nil]); first | done | rfl | (simp only [List.length_drop, List.length_take]; rfl)) ?_; (with_reducible refine (spec_PolicePulses.calls kj4 a0 a1 _ _ l2 t125 _ ?side1 ?side2 A12.out).mono ?_); (case side1 => repeat (first | exact (Kd.C_below HR2.out HB.out) | (with_reducible refine Kd.C_alloc ?_ _) | (with_reducible refine Kd.C_drewN ?_ _) | (with_reducible refine Kd.C_drew ?_))); (case side2 => exact HC2.out); rintro e w13 ⟨v126, rfl, ho0, hb⟩; refine ⟨_, rfl, ?_⟩; have n0_ := Aside0.mk (Kd.R_lower ho0 (below_size (by repeat (first | (with_reducible first | exact HB.out | apply below_alloc | apply pw_below_drewN | apply below_drew1) | exact HB.out)))); have n1_ := Aside0.mk (below_step (by repeat (first | (with_reducible first | exact HB.out | apply below_alloc | apply pw_below_drewN | apply below_drew1) | exact HB.out)) hb); clear HB; have HO127 := n0_; have HB := n1_; clear n0_ n1_; (try clear hb); (try clear hb2); (try clear hk); (try clear hi); (try clear ho0)))
        go_loopg [10, 11] kj4 (fun kq v10 v11 w' => ∃ (x10_2 : Int) (x11_2 : Int), v10 = .int .i64 x10_2 ∧ v11 = .int .i64 x11_2 ∧ Aside0 (spec_TokensAt.l0 kq a0 a1 l2 a3 t125 x10_2 x11_2 = some r) ∧ Aside0 (kq ≤ kj4) ∧ Aside0 (Kd.R Kd.bool 4 w' w.heap.size (fun _ => True) v126 t125) ∧ Aside0 (Below w.heap.size w w'))
        case atStart => exact ⟨(a1), (0), (by first | rfl | (simp; done) | (simp [*]; done)), (by first | rfl | (simp; done) | (simp [*]; done)), H', ⟨Nat.le_refl _⟩, ⟨by (with_reducible repeat (first | apply Kd.R_alloc | apply Kd.R_drewN | apply Kd.R_drew)); exact HO127.out⟩, ⟨by repeat (first | (with_reducible first | exact HB.out | apply below_alloc | apply pw_below_drewN | apply below_drew1) | exact HB.out)⟩⟩
        case round =>
          clear H'
          try clear c1
          try clear c2
          try clear p2
          try clear c4
          try clear c7
          try clear c11
          try clear p2
          obtain ⟨x10_2, x11_2, rfl, rfl, HA, HK2, HO_9, HB⟩ := hrel
          cases gk with
          | zero => exact absurd HA.out (by simp [spec_TokensAt.l0])
          | succ k2 =>
            have H := HA.out
            clear HA
            simp only [spec_TokensAt.l0] at H
            by_cases c14 : x11_2 ≤ a3
            · rw [if_pos c14] at H
              have c14b0 : decide (x11_2 ≤ a3) = true := decide_eq_true c14
              clear c14
              have HC15 := Aside0.mk H
              clear H
              go_upto_if 34 with (fail)
              go_cut [10] (fun v10 wc => ∃ (kq : Nat) (x10_14 : Int), v10 = .int .i64 x10_14 ∧ Aside0 (spec_TokensAt.j2 kq a0 a1 l2 a3 t125 x10_14 x11_2 = some r) ∧ Aside0 (kq ≤ k2) ∧ Aside0 (Kd.R Kd.bool 4 wc w.heap.size (fun _ => True) v126 t125) ∧ Aside0 (Below w.heap.size w wc))
              case first =>
                have H := HC15.out
                clear HC15
                by_cases c16 : x11_2 > 0
                · rw [if_pos c16] at H
                  have c16b0 : decide (0 < x11_2) = true := decide_eq_true c16
                  clear c16
                  (first | rw [c16b0] | (simp only [i64_w, i32_w]; rw [c16b0]) | skip)
                  obtain ⟨ji17, hji17⟩ : ∃ j_ : Int, (mn a1 (wrap64 (x10_2 + a0))) = j_ := ⟨_, rfl⟩
                  replace H : (spec_TokensAt.j2 k2 a0 a1 l2 a3 t125 ji17 x11_2) = some r := by first | (rw [hji17] at H; exact H) | (simp only [hji17] at H ⊢; exact H)
                  have hji17_ : (if (wrap64 (x10_2 + a0)) < a1 then (wrap64 (x10_2 + a0)) else a1) = ji17 := hji17
                  have H' := Aside0.mk H
                  clear H
                  go_wp2
                  go_meet
                  case rel => exact ⟨_, (ji17), (by first | rfl | (simp; done) | (simp only [← hji17] <;> (first | rfl | simp)) | (simp [*]; done)), H', ⟨by have := HJ4.out; have := HK2.out; first | omega | exact Nat.le_refl _⟩, ⟨by (with_reducible repeat (first | apply Kd.R_alloc | apply Kd.R_drewN | apply Kd.R_drew)); exact HO_9.out⟩, ⟨by repeat (first | (with_reducible first | exact HB.out | apply below_alloc | apply pw_below_drewN | apply below_drew1) | exact HB.out)⟩⟩
                · rw [if_neg c16] at H
                  have c16b0 : decide (0 < x11_2) = false := decide_eq_false c16
                  clear c16
                  (first | rw [c16b0] | (simp only [i64_w, i32_w]; rw [c16b0]) | skip)
                  have H' := Aside0.mk H
                  clear H
                  go_wp2
                  go_meet
                  case rel => exact ⟨_, (x10_2), (by first | rfl | (simp; done) | (simp [*]; done)), H', ⟨by have := HJ4.out; have := HK2.out; first | omega | exact Nat.le_refl _⟩, ⟨by (with_reducible repeat (first | apply Kd.R_alloc | apply Kd.R_drewN | apply Kd.R_drew)); exact HO_9.out⟩, ⟨by repeat (first | (with_reducible first | exact HB.out | apply below_alloc | apply pw_below_drewN | apply below_drew1) | exact HB.out)⟩⟩
              case rest =>
                clear HC15
                try clear c1
                try clear c2
                try clear p2
                try clear c4
                try clear p6
                try clear c7
                try clear c11
                try clear c14
                try clear c14b0
                try clear c15
                try clear c16
                try clear c16b0
                try clear p2
                obtain ⟨kq, x10_14, rfl, HA, HJ14, HO_9, HB⟩ := hcut
                cases kq with
                | zero => exact absurd HA.out (by simp [spec_TokensAt.j2])
                | succ kj14 =>
                  have H := HA.out
                  clear HA
                  simp only [spec_TokensAt.j2] at H
                  have H' := Aside0.mk H
                  clear H
                  go_wp2
                  go_loopg [10, 12] kj14 (fun kq v10 v12 w' => ∃ (x10_4 : Int) (x12_4 : Int), v10 = .int .i64 x10_4 ∧ v12 = .int .i64 x12_4 ∧ Aside0 (spec_TokensAt.l1 kq a0 a1 l2 a3 t125 x10_4 x11_2 x12_4 = some r) ∧ Aside0 (kq ≤ kj14) ∧ Aside0 (Kd.R Kd.bool 4 w' w.heap.size (fun _ => True) v126 t125) ∧ Aside0 (Below w.heap.size w w'))
                  case atStart => exact ⟨(x10_14), (0), (by first | rfl | (simp; done) | (simp [*]; done)), (by first | rfl | (simp; done) | (simp [*]; done)), H', ⟨Nat.le_refl _⟩, ⟨by (with_reducible repeat (first | apply Kd.R_alloc | apply Kd.R_drewN | apply Kd.R_drew)); exact HO_9.out⟩, ⟨by repeat (first | (with_reducible first | exact HB.out | apply below_alloc | apply pw_below_drewN | apply below_drew1) | exact HB.out)⟩⟩
                  case round =>
                    clear H'
                    try clear c1
                    try clear c2
                    try clear p2
                    try clear c4
                    try clear p6
                    try clear c7
                    try clear c11
                    try clear c14
                    try clear c14b0
                    try clear c15
                    try clear c16
                    try clear c16b0
                    try clear p2
                    try clear p6
                    obtain ⟨x10_4, x12_4, rfl, rfl, HA, HK4, HO_9, HB⟩ := hrel
                    cases gk with
                    | zero => exact absurd HA.out (by simp [spec_TokensAt.l1])
                    | succ k4 =>
                      have H := HA.out
                      clear HA
                      simp only [spec_TokensAt.l1] at H
                      by_cases c18 : x12_4 < (l2.length : Int)
                      · rw [if_pos c18] at H
                        have c18b0 : decide (x12_4 < (l2.length : Int)) = true := decide_eq_true c18
                        clear c18
                        by_cases c19 : 0 ≤ x12_4
                        · rw [if_pos c19] at H
                          have c19b0 : decide (0 ≤ x12_4) = true := decide_eq_true c19
                          clear c19
                          by_cases c20 : ((rd_T35 l2 x12_4).f0) = x11_2
                          · rw [if_pos c20] at H
                            have c20b0 : (((rd_T35 l2 x12_4).f0) == x11_2) = true := beq_iff_eq.mpr c20
                            have c20b1 : (((rd_T35 l2 x12_4).f0) != x11_2) = false := bne_eq_false_iff_eq.mpr c20
                            clear c20
                            by_cases c21 : x12_4 < (t125.length : Int)
                            · rw [if_pos c21] at H
                              have c21b0 : decide (x12_4 < (t125.length : Int)) = true := decide_eq_true c21
                              clear c21
                              obtain ⟨bq22, hbq22⟩ : ∃ b_ : Bool, b_ = (rdOf false t125 x12_4) := ⟨_, rfl⟩
                              replace H : (if bq22 = true then (spec_TokensAt.l1 k4 a0 a1 l2 a3 t125 (wrap64 (x10_4 - ((rd_T35 l2 x12_4).f1))) x11_2 (wrap64 (x12_4 + 1))) else (spec_TokensAt.l1 k4 a0 a1 l2 a3 t125 x10_4 x11_2 (wrap64 (x12_4 + 1)))) = some r := by rw [← hbq22] at H; exact H
                              have Nbq22 := Aside0.mk hbq22
                              clear hbq22
                              by_cases c23 : bq22 = true
                              · subst c23
                                have H1 : (spec_TokensAt.l1 k4 a0 a1 l2 a3 t125 (wrap64 (x10_4 - ((rd_T35 l2 x12_4).f1))) x11_2 (wrap64 (x12_4 + 1))) = some r := by rw [if_pos rfl] at H; exact H
                                clear H
                                have H := H1
                                clear H1
                                have H' := Aside0.mk H
                                clear H
                                have p128 : 0 ≤ (x12_4 : Int) := of_decide_eq_true (by first | (with_reducible assumption) | assumption)
                                have q128 : x12_4 < (l2.length : Int) := of_decide_eq_true (by first | (with_reducible assumption) | assumption)
                                obtain ⟨ad128, e128, hx128_0, hx128_1⟩ := at_T35 HR2.out x12_4 p128 q128
                                cases e128
                                replace hx128_0 := (HB.out.cell (World.block_lt_of_cell? w _ hx128_0)).trans hx128_0
                                replace hx128_1 := (HB.out.cell (World.block_lt_of_cell? w _ hx128_1)).trans hx128_1
                                replace p128 := eq_true p128
                                replace q128 := eq_true q128
                                obtain ⟨Ao24, co24, eo24⟩ := Kd.R_slice HO_9.out
                                subst eo24
                                have p129 : 0 ≤ (x12_4 : Int) := of_decide_eq_true (by first | (with_reducible assumption) | assumption)
                                have q129 : x12_4 < (t125.length : Int) := of_decide_eq_true (by first | (with_reducible assumption) | assumption)
                                obtain ⟨ad129, e129, hx129_0⟩ := Kd.at_bool (Kd.R_reads' HO_9.out).2.2 x12_4 p129 q129
                                (try rw [← Nbq22.out] at hx129_0)
                                cases e129
                                replace p129 := eq_true p129
                                replace q129 := eq_true q129
                                have p130 : 0 ≤ (x12_4 : Int) := of_decide_eq_true (by first | (with_reducible assumption) | assumption)
                                have q130 : x12_4 < (l2.length : Int) := of_decide_eq_true (by first | (with_reducible assumption) | assumption)
                                obtain ⟨ad130, e130, hx130_0, hx130_1⟩ := at_T35 HR2.out x12_4 p130 q130
                                obtain rfl : ad128 = ad130 := (by injection e130)
                                replace hx130_0 := (HB.out.cell (World.block_lt_of_cell? w _ hx130_0)).trans hx130_0
                                replace hx130_1 := (HB.out.cell (World.block_lt_of_cell? w _ hx130_1)).trans hx130_1
                                replace p130 := eq_true p130
                                replace q130 := eq_true q130
                                go_wp2
                                go_roundg k4
                                case measure => have := HJ4.out; have := HK2.out; have := HJ14.out; have := HK4.out; omega
                                case rel => exact ⟨(wrap64 (x10_4 - ((rd_T35 l2 x12_4).f1))), (wrap64 (x12_4 + 1)), (by first | rfl | (simp; done) | (simp [*]; done)), (by first | rfl | (simp; done) | (simp [*]; done)), H', ⟨by have := HJ4.out; have := HK2.out; have := HJ14.out; have := HK4.out; omega⟩, ⟨by (with_reducible repeat (first | apply Kd.R_alloc | apply Kd.R_drewN | apply Kd.R_drew)); exact HO_9.out⟩, ⟨by repeat (first | (with_reducible first | exact HB.out | apply below_alloc | apply pw_below_drewN | apply below_drew1) | exact HB.out)⟩⟩
                              · replace c23 := Bool.eq_false_iff.mpr c23
                                subst c23
                                have H1 : (spec_TokensAt.l1 k4 a0 a1 l2 a3 t125 x10_4 x11_2 (wrap64 (x12_4 + 1))) = some r := by rw [if_neg (show ¬ (false = true) by decide)] at H; exact H
                                clear H
                                have H := H1
                                clear H1
                                have H' := Aside0.mk H
                                clear H
                                have p128 : 0 ≤ (x12_4 : Int) := of_decide_eq_true (by first | (with_reducible assumption) | assumption)
                                have q128 : x12_4 < (l2.length : Int) := of_decide_eq_true (by first | (with_reducible assumption) | assumption)
                                obtain ⟨ad128, e128, hx128_0, hx128_1⟩ := at_T35 HR2.out x12_4 p128 q128
                                cases e128
                                replace hx128_0 := (HB.out.cell (World.block_lt_of_cell? w _ hx128_0)).trans hx128_0
                                replace hx128_1 := (HB.out.cell (World.block_lt_of_cell? w _ hx128_1)).trans hx128_1
                                replace p128 := eq_true p128
                                replace q128 := eq_true q128
                                obtain ⟨Ao25, co25, eo25⟩ := Kd.R_slice HO_9.out
                                subst eo25
                                have p129 : 0 ≤ (x12_4 : Int) := of_decide_eq_true (by first | (with_reducible assumption) | assumption)
                                have q129 : x12_4 < (t125.length : Int) := of_decide_eq_true (by first | (with_reducible assumption) | assumption)
                                obtain ⟨ad129, e129, hx129_0⟩ := Kd.at_bool (Kd.R_reads' HO_9.out).2.2 x12_4 p129 q129
                                (try rw [← Nbq22.out] at hx129_0)
                                cases e129
                                replace p129 := eq_true p129
                                replace q129 := eq_true q129
                                go_wp2
                                go_roundg k4
                                case measure => have := HJ4.out; have := HK2.out; have := HJ14.out; have := HK4.out; omega
                                case rel => exact ⟨(x10_4), (wrap64 (x12_4 + 1)), (by first | rfl | (simp; done) | (simp [*]; done)), (by first | rfl | (simp; done) | (simp [*]; done)), H', ⟨by have := HJ4.out; have := HK2.out; have := HJ14.out; have := HK4.out; omega⟩, ⟨by (with_reducible repeat (first | apply Kd.R_alloc | apply Kd.R_drewN | apply Kd.R_drew)); exact HO_9.out⟩, ⟨by repeat (first | (with_reducible first | exact HB.out | apply below_alloc | apply pw_below_drewN | apply below_drew1) | exact HB.out)⟩⟩
                            · rw [if_neg c21] at H
                              exact absurd H (by simp)
                          · rw [if_neg c20] at H
                            have c20b0 : (((rd_T35 l2 x12_4).f0) == x11_2) = false := beq_eq_false_iff_ne.mpr c20
                            have c20b1 : (((rd_T35 l2 x12_4).f0) != x11_2) = true := bne_iff_ne.mpr c20
                            have H' := Aside0.mk H
                            clear H
                            have p128 : 0 ≤ (x12_4 : Int) := of_decide_eq_true (by first | (with_reducible assumption) | assumption)
                            have q128 : x12_4 < (l2.length : Int) := of_decide_eq_true (by first | (with_reducible assumption) | assumption)
                            obtain ⟨ad128, e128, hx128_0, hx128_1⟩ := at_T35 HR2.out x12_4 p128 q128
                            cases e128
                            replace hx128_0 := (HB.out.cell (World.block_lt_of_cell? w _ hx128_0)).trans hx128_0
                            replace hx128_1 := (HB.out.cell (World.block_lt_of_cell? w _ hx128_1)).trans hx128_1
                            replace p128 := eq_true p128
                            replace q128 := eq_true q128
                            go_wp2
                            go_roundg k4
                            case measure => have := HJ4.out; have := HK2.out; have := HJ14.out; have := HK4.out; omega
                            case rel => exact ⟨(x10_4), (wrap64 (x12_4 + 1)), (by first | rfl | (simp; done) | (simp [*]; done)), (by first | rfl | (simp; done) | (simp [*]; done)), H', ⟨by have := HJ4.out; have := HK2.out; have := HJ14.out; have := HK4.out; omega⟩, ⟨by (with_reducible repeat (first | apply Kd.R_alloc | apply Kd.R_drewN | apply Kd.R_drew)); exact HO_9.out⟩, ⟨by repeat (first | (with_reducible first | exact HB.out | apply below_alloc | apply pw_below_drewN | apply below_drew1) | exact HB.out)⟩⟩
                        · rw [if_neg c19] at H
                          exact absurd H (by simp)
                      · rw [if_neg c18] at H
                        have c18b0 : decide (x12_4 < (l2.length : Int)) = false := decide_eq_false c18
                        clear c18
                        have H' := Aside0.mk H
                        clear H
                        go_wp2
                        go_roundg k4
                        case measure => have := HJ4.out; have := HK2.out; have := HJ14.out; have := HK4.out; omega
                        case rel => exact ⟨(x10_4), (wrap64 (x11_2 + 1)), (by first | rfl | (simp; done) | (simp [*]; done)), (by first | rfl | (simp; done) | (simp [*]; done)), H', ⟨by have := HJ4.out; have := HK2.out; have := HJ14.out; have := HK4.out; omega⟩, ⟨by (with_reducible repeat (first | apply Kd.R_alloc | apply Kd.R_drewN | apply Kd.R_drew)); exact HO_9.out⟩, ⟨by repeat (first | (with_reducible first | exact HB.out | apply below_alloc | apply pw_below_drewN | apply below_drew1) | exact HB.out)⟩⟩
            · rw [if_neg c14] at H
              have c14b0 : decide (x11_2 ≤ a3) = false := decide_eq_false c14
              clear c14
              obtain rfl := Option.some.inj H
              go_wp2
              go_ret
              exact ⟨by first | rfl | (simp [errW_none, errW_some] <;> rfl) | (simp [*, errW_none, errW_some] <;> rfl), by repeat (first | (with_reducible first | exact HB.out | apply below_alloc | apply pw_below_drewN | apply below_drew1) | exact HB.out)⟩

/-! ### impl_TokensAt: function 17 (by hand) -/
/-- Tokens and their time behind the frames up to a time. -/
def tokL (r b at_ : Int) : Int → Int → List S35 → Int × Int
  | T, a, [] => (T, a)
  | T, a, p :: l => if p.f0 ≤ at_ then tokL r b at_ (takeT r b T a p.f0 p.f1) p.f0 l else tokL r b at_ T a l
def tokF (r b : Int) (l : List S35) (at_ : Int) : Int := if (fitsB r b l && (decide (0 ≤ at_) && decide (at_ ≤ 2000))) = true then untilT r b (tokL r b at_ b 0 l).1 (tokL r b at_ b 0 l).2 at_ else -1
def impl_TokensAt.f (a0 : Int) (a1 : Int) (l2 : List (S35)) (a3 : Int) : Option (Int) :=
  some (tokF a0 a1 l2 a3)
set_option maxHeartbeats 4000000 in
set_option maxRecDepth 100000 in
theorem impl_TokensAt.calls (a0 : Int) (a1 : Int) (A2 : Option Addr) (c2 : Nat) (l2 : List (S35)) (a3 : Int) (r : Int) (w : World) (hr2 : Kd.C k35 w A2 l2.length l2) (hc2 : l2.length ≤ c2) (h : impl_TokensAt.f a0 a1 l2 a3 = some r) :
    Calls Try.prog 17 #[.int .i64 a0, .int .i64 a1, .slice A2 l2.length c2, .int .i64 a3] w fun e w' => e = .returned (.int .i64 r) ∧ Below w.heap.size w w' := by
  obtain rfl := Option.some.inj h
  have hu := Try.underlying35
  have hnb := x_newBucket a0 a1 A2 c2 l2 w hr2 hc2
  have hw1 := fun W => impl_within.calls a3 0 2000 _ W (withinP_is a3 0 2000)
  have hlen := Kd.C_max hr2
  have HR := Aside0.mk hr2
  have HF : Aside0 (tokF a0 a1 l2 a3 = if (fitsB a0 a1 l2 && (decide (0 ≤ a3) && decide (a3 ≤ 2000))) = true then untilT a0 a1 (tokL a0 a1 a3 a1 0 l2).1 (tokL a0 a1 a3 a1 0 l2).2 a3 else -1) := ⟨rfl⟩
  clear h hr2 hc2
  generalize tokF a0 a1 l2 a3 = z at HF ⊢
  generalize fitsB a0 a1 l2 = f at HF hnb
  generalize (decide (0 ≤ a3) && decide (a3 ≤ 2000)) = f2 at HF hw1
  cases f with
  | false =>
    have HZ : Aside0 (z = -1) := ⟨by rw [HF.out]; rfl⟩
    go_enter Try.func17, Try.ntmps17
    go_wp2_with fail
    refine hnb.mono ?_
    rintro e w1 ⟨g, rfl, hg1, hge, hb1⟩
    clear hg1
    go_wp2
    go_ret
    exact ⟨by rw [HZ.out]; rfl, hb1⟩
  | true =>
  cases f2 with
  | false =>
    have HZ : Aside0 (z = -1) := ⟨by rw [HF.out]; rfl⟩
    go_enter Try.func17, Try.ntmps17
    go_wp2_with fail
    refine hnb.mono ?_
    rintro e w1 ⟨g, rfl, hg1, hge, hb1⟩
    clear hg1
    go_wp2_with fail
    refine (hw1 _).mono ?_
    rintro e w2 ⟨rfl, hd2⟩
    go_wp2_with fail
    go_ret
    exact ⟨by rw [HZ.out]; rfl, below_step hb1 hd2.below⟩
  | true =>
    have HZ : Aside0 (z = untilT a0 a1 (tokL a0 a1 a3 a1 0 l2).1 (tokL a0 a1 a3 a1 0 l2).2 a3) := ⟨by rw [HF.out]; rfl⟩
    go_enter Try.func17, Try.ntmps17
    go_wp2_with fail
    refine hnb.mono ?_
    rintro e w1 ⟨g, rfl, hg1, hge, hb1⟩
    have HG1 := Aside0.mk hg1
    clear hg1
    go_wp2_with fail
    refine (hw1 _).mono ?_
    rintro e w2 ⟨rfl, hd2⟩
    have HB2 := Aside0.mk (below_step hb1 hd2.below)
    have HG2 := Aside0.mk (blk_below HG1.out hd2.below)
    clear hb1 hd2 hnb hw1 HG1
    go_wp2_with fail
    go_loopg [12, 29] l2.length (fun gg _ s29 wr => ∃ (kk : Nat) (T a : Int), kk ≤ l2.length ∧ l2.length - kk ≤ gg ∧ s29 = .int .i64 kk ∧ Aside0 (tokL a0 a1 a3 T a (l2.drop kk) = tokL a0 a1 a3 a1 0 l2) ∧ Aside0 (wr.heap[g]? = some (bk a0 a1 T a)) ∧ Aside0 (Below w.heap.size w wr))
    case atStart => exact ⟨0, a1, 0, Nat.zero_le _, by omega, rfl, ⟨rfl⟩, HG2, HB2⟩
    case round =>
      obtain ⟨kk, T, a, hkk, hgg, rfl, HP, HS, BW⟩ := hrel
      by_cases hlt : kk < l2.length
      · obtain ⟨ad, e, hx0, hx1⟩ := at_T35 (Kd.C_below HR.out BW.out) (kk : Int) (by omega) (by omega)
        cases e
        rw [Int.toNat_natCast] at hx0 hx1
        have HP' : Aside0 ((if (rd_T35 l2 kk).f0 ≤ a3 then tokL a0 a1 a3 (takeT a0 a1 T a (rd_T35 l2 kk).f0 (rd_T35 l2 kk).f1) (rd_T35 l2 kk).f0 (l2.drop (kk + 1)) else tokL a0 a1 a3 T a (l2.drop (kk + 1))) = tokL a0 a1 a3 a1 0 l2) := ⟨by
          rw [← HP.out, List.drop_eq_getElem_cons hlt, rdP_get l2 kk hlt]; rfl⟩
        have hcall := fun W (hW : W.heap[g]? = some (bk a0 a1 T a)) => x_take g a0 a1 T a (rd_T35 l2 kk).f0 (rd_T35 l2 kk).f1 W hW
        generalize (rd_T35 l2 kk).f0 = pa at hx0 hcall HP'
        generalize (rd_T35 l2 kk).f1 = ps at hx1 hcall HP'
        generalize takeT a0 a1 T a pa ps = tt at hcall HP'
        clear HP
        by_cases c : pa ≤ a3
        · have cb : decide (pa ≤ a3) = true := decide_eq_true c
          have HP2 : Aside0 (tokL a0 a1 a3 tt pa (l2.drop (kk + 1)) = tokL a0 a1 a3 a1 0 l2) := ⟨by rw [← HP'.out, if_pos c]⟩
          clear HP' c
          go_wp2_with fail
          refine (hcall _ (by exact blk_alloc HS.out _)).mono ?_
          rintro e w3 ⟨rfl, hg3, ht3⟩
          have BW3 := Aside0.mk (ht3.2 w hge (below_alloc BW.out _))
          have HG3 := Aside0.mk hg3
          clear ht3 hg3 hcall BW HS
          go_wp2_with fail
          go_roundg (l2.length - (kk + 1))
          case measure => omega
          case rel => exact ⟨kk + 1, tt, pa, by omega, by omega, by go_num, HP2, HG3, BW3⟩
        · have cb : decide (pa ≤ a3) = false := decide_eq_false c
          have HP2 : Aside0 (tokL a0 a1 a3 T a (l2.drop (kk + 1)) = tokL a0 a1 a3 a1 0 l2) := ⟨by rw [← HP'.out, if_neg c]⟩
          clear HP' c hcall
          go_wp2_with fail
          go_roundg (l2.length - (kk + 1))
          case measure => omega
          case rel => exact ⟨kk + 1, T, a, by omega, by omega, by go_num, HP2, ⟨blk_alloc HS.out _⟩, ⟨below_alloc BW.out _⟩⟩
      · have e : kk = l2.length := by omega
        subst e
        have HU := x_until g a0 a1 T a a3 wr HS.out
        have HZ2 : Aside0 (z = untilT a0 a1 T a a3) := ⟨by rw [HZ.out, ← HP.out, List.drop_length]; rfl⟩
        generalize untilT a0 a1 T a a3 = m at HU HZ2
        go_wp2_with fail
        refine HU.mono ?_
        rintro e w3 ⟨rfl, hg3, ht3⟩
        have c2 : w3.cell? ⟨g, 2, none⟩ = some (.int .i64 m) := (blk_cell hg3 2).trans rfl
        have BW3 := Aside0.mk (ht3.2 w hge BW.out)
        have hu2 := Try.underlying62
        clear hg3 ht3 HU
        go_wp2
        go_ret
        exact ⟨by rw [HZ2.out]; rfl, BW3.out⟩

-- LIB p14tok
/-- What the frames of a time take that are let through. -/
def decW (t : Int) : Int → List S35 → List Bool → Int
  | x, p :: l, th :: ths => decW t (if p.f0 = t ∧ th = true then wrap64 (x - p.f1) else x) l ths
  | x, _, _ => x
/-- The tokens so many steps behind a time; x are those there ahead of its frames. -/
def runT (r b : Int) (l : List S35) (th : List Bool) : Nat → Int → Int → Int
  | 0, t, x => decW t x l th
  | n + 1, t, x => runT r b l th n (t + 1) (mn b (wrap64 (decW t x l th + r)))
theorem runT_succ (r b : Int) (l : List S35) (th : List Bool) (n : Nat) : ∀ t x, runT r b l th (n + 1) t x = decW (t + n + 1) (mn b (wrap64 (runT r b l th n t x + r))) l th := by
  induction n with
  | zero => intro t x; rw [show t + ((0 : Nat) : Int) + 1 = t + 1 by omega]; rfl
  | succ n ih =>
    intro t x
    rw [runT, ih, show t + 1 + (n : Int) + 1 = t + ((n + 1 : Nat) : Int) + 1 by omega, runT]
theorem decW_skip (t : Int) (l : List S35) : ∀ (th : List Bool) (x : Int), (∀ p ∈ l, p.f0 ≠ t) → decW t x l th = x := by
  induction l with
  | nil => intro th x _; cases th <;> rfl
  | cons p l ih =>
    intro th x h
    cases th with
    | nil => rfl
    | cons a th => rw [decW, if_neg (fun hh => h p (by simp) hh.1)]; exact ih th x (fun q hq => h q (by simp [hq]))
theorem runT_pass (r b : Int) (p : S35) (l : List S35) (a : Bool) (th : List Bool) (n : Nat) : ∀ t x, p.f0 < t → runT r b (p :: l) (a :: th) n t x = runT r b l th n t x := by
  induction n with
  | zero => intro t x h; rw [runT, runT, decW, if_neg (fun hh => by omega)]
  | succ n ih => intro t x h; rw [runT, runT, decW, if_neg (fun hh => by omega)]; exact ih _ _ (by omega)
theorem if_neg_or (x b : Int) (h : x ≤ b) : (if x < b then x else b) = x := by split <;> omega
theorem runT_to {r b : Int} (hr : 1 ≤ r ∧ r ≤ 20) (hb : 1 ≤ b ∧ b ≤ 100) (l : List S35) (th : List Bool) (n : Nat) (m : Nat) : ∀ (t x : Int), 0 ≤ x → x ≤ b → (∀ p ∈ l, t + m ≤ p.f0) → runT r b l th (m + n) t x = runT r b l th n (t + m) (mn b (x + r * m)) := by
  induction m with
  | zero =>
    intro t x h0 h1 h2
    rw [Nat.zero_add, show t + ((0 : Nat) : Int) = t by omega, mn_eq]
    rw [show x + r * ((0 : Nat) : Int) = x by simp, if_neg_or x b h1]
  | succ m ih =>
    intro t x h0 h1 h2
    have hs := decW_skip t l th x (fun p hp => by have := h2 p hp; omega)
    rw [show m + 1 + n = (m + n) + 1 by omega, runT, hs, wrap_eq (by omega) (by omega), ih (t + 1) _ (by rw [mn_eq]; split <;> omega) (by rw [mn_eq]; split <;> omega) (fun p hp => by have := h2 p hp; omega)]
    rw [show t + 1 + (m : Int) = t + ((m + 1 : Nat) : Int) by omega]
    congr 1
    have e : r * ((m + 1 : Nat) : Int) = r + r * (m : Int) := by rw [Int.natCast_add, Int.mul_add]; simp; omega
    have hm : 0 ≤ r * (m : Int) := Int.mul_nonneg (by omega) (by omega)
    rw [e]
    generalize r * (m : Int) = z at *
    rw [mn_eq, mn_eq, mn_eq]; split <;> split <;> split <;> omega
theorem tokL_none (r b at_ : Int) (l : List S35) : ∀ T a, (∀ p ∈ l, at_ < p.f0) → tokL r b at_ T a l = (T, a) := by
  induction l with
  | nil => intro T a _; rfl
  | cons p l ih => intro T a h; rw [tokL, if_neg (by have := h p (by simp); omega)]; exact ih T a (fun q hq => h q (by simp [hq]))
theorem fromB_all (l : List S35) : ∀ a, fromB a l = true → ∀ p ∈ l, a ≤ p.f0 := by
  induction l with
  | nil => intro a _ p hp; simp at hp
  | cons q l ih =>
    intro a h p hp
    obtain ⟨f1, _, _, _, _, f6⟩ := fromB_cons h
    rcases List.mem_cons.1 hp with e | e
    · rw [e]; exact f1
    · have := ih q.f0 f6 p e; omega
theorem run_tok {r b : Int} (hr : 1 ≤ r ∧ r ≤ 20) (hb : 1 ≤ b ∧ b ≤ 100) (l : List S35) : ∀ (n : Nat) (T a : Int), 0 ≤ a → a + n ≤ 2000 → 0 ≤ T → T ≤ b → fromB a l = true →
    runT r b l (polL r b T a l) n a T = untilT r b (tokL r b (a + n) T a l).1 (tokL r b (a + n) T a l).2 (a + n) ∧ 0 ≤ runT r b l (polL r b T a l) n a T ∧ runT r b l (polL r b T a l) n a T ≤ b := by
  have none_ : ∀ (l : List S35) (n : Nat) (T a : Int) (th : List Bool), 0 ≤ a → a + n ≤ 2000 → 0 ≤ T → T ≤ b → (∀ p ∈ l, a + n < p.f0) → runT r b l th n a T = untilT r b T a (a + n) ∧ 0 ≤ runT r b l th n a T ∧ runT r b l th n a T ≤ b := by
    intro l n T a th h0 h1 h2 h3 h4
    have e := runT_to hr hb l th 0 n a T h2 h3 (fun p hp => by have := h4 p hp; omega)
    obtain ⟨u1, u2, u3⟩ := untilT_fit (r := r) (b := b) (T := T) (a := a) (t := a + n) hr hb (by omega) h0 (by omega) (by omega)
    rw [Nat.add_zero] at e
    rw [e, runT, decW_skip _ l th _ (fun p hp => by have := h4 p hp; omega), u1]
    rw [show a + (n : Int) - a = n by omega] at u2 ⊢
    refine ⟨rfl, ?_, ?_⟩ <;> rw [mn_eq] <;> split <;> omega
  induction l with
  | nil => intro n T a h0 h1 h2 h3 _; exact none_ [] n T a _ h0 h1 h2 h3 (by simp)
  | cons p l ih =>
    intro n T a h0 h1 h2 h3 hf
    obtain ⟨f1, f2, f3, f4, f5, f6⟩ := fromB_cons hf
    have hall := fromB_all l p.f0 f6
    by_cases c : p.f0 ≤ a + n
    · obtain ⟨m, hm⟩ := Int.eq_ofNat_of_zero_le (show 0 ≤ p.f0 - a by omega)
      obtain ⟨q, rfl⟩ : ∃ q, n = m + q := ⟨n - m, by omega⟩
      have e := runT_to hr hb (p :: l) (polL r b T a (p :: l)) q m a T h2 h3 (fun x hx => by
        rcases List.mem_cons.1 hx with e | e
        · rw [e]; omega
        · have := hall x e; omega)
      obtain ⟨u1, u2, u3⟩ := untilT_fit (r := r) (b := b) (T := T) (a := a) (t := p.f0) hr hb (by omega) h0 f1 (by omega)
      have ea : a + (m : Int) = p.f0 := by omega
      rw [ea, show (m : Int) = p.f0 - a by omega, ← u1] at e
      rw [e, tokL, if_pos c, polL]
      have hu : 0 ≤ untilT r b T a p.f0 ∧ untilT r b T a p.f0 ≤ b := by rw [u1, mn_eq]; split <;> omega
      have hT : decW p.f0 (untilT r b T a p.f0) (p :: l) (takeOk r b T a p.f0 p.f1 :: polL r b (takeT r b T a p.f0 p.f1) p.f0 l) = decW p.f0 (takeT r b T a p.f0 p.f1) l (polL r b (takeT r b T a p.f0 p.f1) p.f0 l) := by
        rw [decW]
        congr 1
        unfold takeT takeOk
        by_cases h : p.f1 ≤ untilT r b T a p.f0
        · rw [if_pos h, if_pos ⟨rfl, decide_eq_true h⟩]
        · rw [if_neg h, if_neg (fun hh => h (of_decide_eq_true hh.2))]
      have hb2 : 0 ≤ takeT r b T a p.f0 p.f1 ∧ takeT r b T a p.f0 p.f1 ≤ b := by
        unfold takeT
        by_cases h : p.f1 ≤ untilT r b T a p.f0
        · rw [if_pos h, wrap_eq (by omega) (by omega)]; omega
        · rw [if_neg h]; exact hu
      have hgo : runT r b (p :: l) (takeOk r b T a p.f0 p.f1 :: polL r b (takeT r b T a p.f0 p.f1) p.f0 l) q p.f0 (untilT r b T a p.f0) = runT r b l (polL r b (takeT r b T a p.f0 p.f1) p.f0 l) q p.f0 (takeT r b T a p.f0 p.f1) := by
        cases q with
        | zero => rw [runT, runT, hT]
        | succ q => rw [runT, runT, hT]; exact runT_pass r b p l _ _ q _ _ (by omega)
      rw [hgo]
      have := ih q (takeT r b T a p.f0 p.f1) p.f0 f2 (by omega) hb2.1 hb2.2 f6
      rw [show p.f0 + (q : Int) = a + ((m + q : Nat) : Int) by omega] at this
      exact this
    · have hno : ∀ x ∈ p :: l, a + n < x.f0 := fun x hx => by
        rcases List.mem_cons.1 hx with e | e
        · rw [e]; omega
        · have := hall x e; omega
      rw [tokL_none r b (a + n) (p :: l) T a hno]
      exact none_ (p :: l) n T a _ h0 h1 h2 h3 hno
theorem rdB_get (l : List Bool) (i : Nat) (h : i < l.length) : rdOf false l (i : Int) = l[i] := by simp [rdOf, List.getD_eq_getElem?_getD, h]
theorem stok_l1 (r b at_ : Int) (l : List S35) (th : List Bool) (hl : l.length ≤ 1000) (hth : th.length = l.length) (t : Int) (k : Nat) (d : Nat) : ∀ (i : Nat) (x : Int), i + d = l.length → spec_TokensAt.l1 (k + d + 1) r b l at_ th x t (i : Int) = spec_TokensAt.l0 k r b l at_ th (decW t x (l.drop i) (th.drop i)) (wrap64 (t + 1)) := by
  induction d with
  | zero =>
    intro i x h
    rw [show k + 0 + 1 = k + 1 by omega]
    simp only [spec_TokensAt.l1]
    rw [if_neg (by omega), show i = l.length by omega, List.drop_length]
    simp [decW]
  | succ d ih =>
    intro i x h
    obtain ⟨q, hq⟩ : ∃ q, q = k + d + 1 := ⟨_, rfl⟩
    rw [← hq] at ih
    rw [show k + (d + 1) + 1 = q + 1 by omega]
    simp only [spec_TokensAt.l1]
    rw [if_pos (by omega), if_pos (by omega), rdP_get l i (by omega), wrap_succ (show i < l.length by omega) (by omega), List.drop_eq_getElem_cons (show i < l.length by omega), List.drop_eq_getElem_cons (show i < th.length by omega), decW]
    by_cases c : l[i].f0 = t
    · rw [if_pos c, if_pos (by omega), rdB_get th i (by omega)]
      by_cases c2 : th[i] = true
      · rw [if_pos c2, if_pos ⟨c, c2⟩]; exact ih (i + 1) _ (by omega)
      · rw [if_neg c2, if_neg (fun hh => c2 hh.2)]; exact ih (i + 1) _ (by omega)
    · rw [if_neg c, if_neg (fun hh => c hh.1)]; exact ih (i + 1) _ (by omega)
theorem stok_l0 (r b at_ : Int) (l : List S35) (th : List Bool) (hl : l.length ≤ 1000) (hth : th.length = l.length) (n : Nat) : ∀ (k : Nat) (t x : Int), 1 ≤ t → t ≤ 5000 → at_ = t + n → at_ ≤ 5000 → (l.length + 4) * (n + 1) < k → spec_TokensAt.l0 k r b l at_ th x t = some (runT r b l th n t (mn b (wrap64 (x + r)))) := by
  induction n with
  | zero =>
    intro k t x h1 h2 h3 h4 hk
    obtain ⟨k, rfl⟩ : ∃ m, k = m + 1 + l.length + 1 + 1 + 1 := ⟨k - l.length - 4, by omega⟩
    simp only [spec_TokensAt.l0, spec_TokensAt.j2]
    rw [if_pos (by omega), if_pos (by omega)]
    have e := stok_l1 r b at_ l th hl hth t (k + 1) l.length 0 (mn b (wrap64 (x + r))) (by omega)
    rw [List.drop_zero, List.drop_zero] at e
    refine Eq.trans e ?_
    rw [wrap_eq (x := t + 1) (by omega) (by omega)]
    simp only [spec_TokensAt.l0]
    rw [if_neg (by omega), runT]
  | succ n ih =>
    intro k t x h1 h2 h3 h4 hk
    rw [Nat.mul_succ] at hk
    obtain ⟨k, rfl⟩ : ∃ m, k = m + l.length + 1 + 1 + 1 := ⟨k - l.length - 3, by omega⟩
    simp only [spec_TokensAt.l0, spec_TokensAt.j2]
    rw [if_pos (by omega), if_pos (by omega)]
    have e := stok_l1 r b at_ l th hl hth t k l.length 0 (mn b (wrap64 (x + r))) (by omega)
    rw [List.drop_zero, List.drop_zero] at e
    refine Eq.trans e ?_
    rw [wrap_eq (x := t + 1) (by omega) (by omega), ih k (t + 1) _ (by omega) (by omega) (by omega) h4 (by omega), runT]
theorem tok_run {r b : Int} {l : List S35} (hf : fitsB r b l = true) {at_ : Int} (n : Nat) (hn : at_ = n) (h : at_ ≤ 2000) : tokF r b l at_ = runT r b l (polL r b b 0 l) n 0 b ∧ 0 ≤ tokF r b l at_ ∧ tokF r b l at_ ≤ b := by
  obtain ⟨f1, f2, f3, f4, f5, f6⟩ := fitsB_facts hf
  obtain ⟨e, e1, e2⟩ := run_tok (r := r) (b := b) ⟨f3, f4⟩ ⟨f5, f6⟩ l n b 0 (by omega) (by omega) (by omega) (by omega) (pv_from f1)
  have hg : tokF r b l at_ = runT r b l (polL r b b 0 l) n 0 b := by
    unfold tokF
    rw [hf, decide_eq_true (show 0 ≤ at_ by omega), decide_eq_true h, e, if_pos (by rfl), hn, Int.zero_add]
  rw [hg]
  exact ⟨rfl, e1, e2⟩
theorem stok_eq (r b : Int) (l : List S35) (at_ : Int) (hl : l.length ≤ 9223372036854775807) (k : Nat) (hk : 200000 + l.length ≤ k) : spec_TokensAt.f k r b l at_ = some (tokF r b l at_) := by
  obtain ⟨k, rfl⟩ : ∃ m, k = m + 1 := ⟨k - 1, by omega⟩
  unfold spec_TokensAt.f
  rw [sfits_eq r b l (by omega) _ (by omega), Option.bind_some]
  cases hf : fitsB r b l with
  | false =>
    rw [if_neg (by decide)]
    simp only [spec_TokensAt.j0]
    rw [if_pos trivial]
    unfold tokF
    rw [hf, if_neg (by simp)]
  | true =>
    obtain ⟨_, g2, _⟩ := fitsB_facts hf
    rw [if_pos rfl, l1InP_eq, Option.bind_some]
    by_cases c : 0 ≤ at_ ∧ at_ ≤ 2000
    · rw [decide_eq_true c.1, decide_eq_true c.2]
      simp only [spec_TokensAt.j0]
      rw [if_neg (by decide), spol_eq r b l (by omega) _ (by omega), Option.bind_some]
      obtain ⟨n, hn⟩ := Int.eq_ofNat_of_zero_le c.1
      have hp : polF r b l = polL r b b 0 l := by unfold polF; rw [if_pos hf]
      have hlen : (polL r b b 0 l).length = l.length := polL_len r b l b 0
      obtain ⟨e, _, _⟩ := tok_run hf n hn c.2
      rw [e, hp]
      obtain ⟨k, rfl⟩ : ∃ m, k = m + l.length + 1 + 1 + 1 := ⟨k - l.length - 3, by omega⟩
      simp only [spec_TokensAt.l0, spec_TokensAt.j2]
      rw [if_pos (by omega), if_neg (by decide)]
      have e1 := stok_l1 r b at_ l _ (by omega) hlen 0 k l.length 0 b (by omega)
      rw [List.drop_zero, List.drop_zero] at e1
      refine Eq.trans e1 ?_
      rw [wrap_eq (by decide) (by decide)]
      cases n with
      | zero =>
        obtain ⟨k, rfl⟩ : ∃ m, k = m + 1 := ⟨k - 1, by omega⟩
        simp only [spec_TokensAt.l0]
        rw [if_neg (by omega), runT]
      | succ n =>
        have hb : (l.length + 4) * (n + 1) ≤ 65 * (n + 1) := Nat.mul_le_mul_right _ (by omega)
        exact stok_l0 r b at_ l _ (by omega) hlen n k 1 _ (by omega) (by omega) (by omega) (by omega) (by omega)
    · have e : (decide (0 ≤ at_) && decide (at_ ≤ 2000)) = false := by
        rw [Bool.and_eq_false_iff]; simp; omega
      rw [e]
      simp only [spec_TokensAt.j0]
      rw [if_pos (by decide)]
      unfold tokF
      rw [hf, e, if_neg (by simp)]
/-- What was taken at a time. -/
def takenL (t : Int) : List S35 → List Bool → Int
  | p :: l, th :: ths => (if p.f0 = t ∧ th = true then p.f1 else 0) + takenL t l ths
  | _, _ => 0
theorem takenL_le (t : Int) (l : List S35) : ∀ (th : List Bool) (a : Int), fromB a l = true → 0 ≤ takenL t l th ∧ takenL t l th ≤ 50 * l.length := by
  induction l with
  | nil => intro th a _; cases th <;> simp [takenL]
  | cons p l ih =>
    intro th a h
    obtain ⟨f1, f2, f3, f4, f5, f6⟩ := fromB_cons h
    cases th with
    | nil => simp [takenL]; omega
    | cons x th =>
      have := ih th p.f0 f6
      rw [takenL, List.length_cons]
      split <;> omega
theorem decW_taken (t : Int) (l : List S35) : ∀ (th : List Bool) (x a : Int), fromB a l = true → -1000000 ≤ x - 50 * l.length → x ≤ 1000000 → decW t x l th = x - takenL t l th := by
  induction l with
  | nil => intro th x a _ _ _; cases th <;> simp [takenL, decW]
  | cons p l ih =>
    intro th x a h h1 h2
    obtain ⟨f1, f2, f3, f4, f5, f6⟩ := fromB_cons h
    rw [List.length_cons] at h1
    cases th with
    | nil => simp [takenL, decW]
    | cons y th =>
      rw [takenL, decW]
      by_cases c : p.f0 = t ∧ y = true
      · rw [if_pos c, if_pos c, wrap_eq (by omega) (by omega), ih th _ p.f0 f6 (by omega) (by omega)]; omega
      · rw [if_neg c, if_neg c, ih th _ p.f0 f6 (by omega) (by omega)]; omega

end Go.Proofs.Ytfbicfnokibobaa.PAll

/- Proved here: contracts of functions of the given program, or lemmas on them, for the laws of this seat. Written by xprint.py, a program of this session, on the ground of the kit's print; parts by hand: wip/x/ext. -/
import Derived.Test.YtjhidlmaphdelaaPAllx0
import Derived.Test.YtjhidlmaphdelaaPAllx2
import Derived.Test.YtjhidlmaphdelaaPAllx9
namespace Go.Proofs.Ytjhidlmaphdelaa.PAll
open Go.RowKit Go.Proofs.YtjhidlmaphdelaaW.PrintWords Go.Proofs.YtjhidlmaphdelaaW.PrintLast Go.Proofs.YtjhidlmaphdelaaW.PrintMore
attribute [local go_sem] max2_int min2_int max_two min_two max_three min_three max_four min_four   -- for this text's walks alone
set_option linter.unusedVariables false
set_option linter.unusedSimpArgs false

/-! ### spec_HeldAt: function 32 -/
mutual
def spec_HeldAt.j0 : Nat → List Int → Int → Int → Int → Int → Int → Bool → Option (Bool)
  | 0, _, _, _, _, _, _, _ => none
  | k + 1, x0, x1, x2, x3, x4, x5, x32 => if x32 = true then (some false) else (spec_HeldAt.l0 k x0 x1 x2 x3 x4 x5 0 false 0)
def spec_HeldAt.l0 : Nat → List Int → Int → Int → Int → Int → Int → Int → Bool → Int → Option (Bool)
  | 0, _, _, _, _, _, _, _, _, _ => none
  | k + 1, x0, x1, x2, x3, x4, x5, x13, x14, x15 => if x15 ≤ x5 then ((spec_l18Penalty.f k x0 x1 x2 x15 x13).bind fun t332 => (if x14 = true then (spec_HeldAt.l0 k x0 x1 x2 x3 x4 x5 t332 (decide (t332 > x4)) (wrap64 (x15 + 1))) else (spec_HeldAt.l0 k x0 x1 x2 x3 x4 x5 t332 (decide (t332 > x3)) (wrap64 (x15 + 1))))) else (some x14)
end
def spec_HeldAt.f (k : Nat) (l0 : List Int) (a1 : Int) (a2 : Int) (a3 : Int) (a4 : Int) (a5 : Int) : Option (Bool) := (spec_PenaltyAt.f k l0 a1 a2 a5).bind fun t329 => (if t329 < 0 then (spec_HeldAt.j0 k l0 a1 a2 a3 a4 a5 true) else ((spec_l1In.f a3 0 1000).bind fun t330 => (if t330 = true then ((spec_l1In.f a4 0 a3).bind fun t331 => (spec_HeldAt.j0 k l0 a1 a2 a3 a4 a5 (!t331))) else (spec_HeldAt.j0 k l0 a1 a2 a3 a4 a5 true))))
theorem spec_HeldAt.mono_l : ∀ k, (∀ y0 y1 y2 y3 y4 y5 y6, LeO (spec_HeldAt.j0 k y0 y1 y2 y3 y4 y5 y6) (spec_HeldAt.j0 (k + 1) y0 y1 y2 y3 y4 y5 y6)) ∧ (∀ y0 y1 y2 y3 y4 y5 y6 y7 y8, LeO (spec_HeldAt.l0 k y0 y1 y2 y3 y4 y5 y6 y7 y8) (spec_HeldAt.l0 (k + 1) y0 y1 y2 y3 y4 y5 y6 y7 y8))
  | 0 => ⟨fun _ _ _ _ _ _ _ r h => by simp [spec_HeldAt.j0] at h, fun _ _ _ _ _ _ _ _ _ r h => by simp [spec_HeldAt.l0] at h⟩
  | k + 1 => by
    obtain ⟨ih0, ih1⟩ := spec_HeldAt.mono_l k
    refine ⟨?_, ?_⟩
    · intro y0 y1 y2 y3 y4 y5 y6
      unfold spec_HeldAt.j0
      repeat' first
      | (with_reducible exact ih0 _ _ _ _ _ _ _)
      | (with_reducible exact ih1 _ _ _ _ _ _ _ _ _)
      | (with_reducible exact spec_PenaltyAt.mono _ _ _ _ _)
      | (with_reducible exact spec_l18Penalty.mono _ _ _ _ _ _)
      | (with_reducible exact LeO.refl _)
      | (with_reducible exact LeO.none _)
      | (with_reducible refine LeO.ite ?_ ?_)
      | (with_reducible refine LeO.bind ?_ (fun _ => ?_))
      | exact ih0 _ _ _ _ _ _ _
      | exact ih1 _ _ _ _ _ _ _ _ _
      | exact spec_PenaltyAt.mono _ _ _ _ _
      | exact spec_l18Penalty.mono _ _ _ _ _ _
      | exact LeO.none _
      | refine LeO.ite ?_ ?_
      | refine LeO.bind ?_ (fun _ => ?_)
    · intro y0 y1 y2 y3 y4 y5 y6 y7 y8
      unfold spec_HeldAt.l0
      repeat' first
      | (with_reducible exact ih0 _ _ _ _ _ _ _)
      | (with_reducible exact ih1 _ _ _ _ _ _ _ _ _)
      | (with_reducible exact spec_PenaltyAt.mono _ _ _ _ _)
      | (with_reducible exact spec_l18Penalty.mono _ _ _ _ _ _)
      | (with_reducible exact LeO.refl _)
      | (with_reducible exact LeO.none _)
      | (with_reducible refine LeO.ite ?_ ?_)
      | (with_reducible refine LeO.bind ?_ (fun _ => ?_))
      | exact ih0 _ _ _ _ _ _ _
      | exact ih1 _ _ _ _ _ _ _ _ _
      | exact spec_PenaltyAt.mono _ _ _ _ _
      | exact spec_l18Penalty.mono _ _ _ _ _ _
      | exact LeO.none _
      | refine LeO.ite ?_ ?_
      | refine LeO.bind ?_ (fun _ => ?_)
theorem spec_HeldAt.mono : ∀ a0 a1 a2 a3 a4 a5 k, LeO (spec_HeldAt.f k a0 a1 a2 a3 a4 a5) (spec_HeldAt.f (k + 1) a0 a1 a2 a3 a4 a5) := by
  intro a0 a1 a2 a3 a4 a5 k
  obtain ⟨ih0, ih1⟩ := spec_HeldAt.mono_l k
  unfold spec_HeldAt.f
  repeat' first
      | (with_reducible exact ih0 _ _ _ _ _ _ _)
      | (with_reducible exact ih1 _ _ _ _ _ _ _ _ _)
      | (with_reducible exact spec_PenaltyAt.mono _ _ _ _ _)
      | (with_reducible exact spec_l18Penalty.mono _ _ _ _ _ _)
      | (with_reducible exact LeO.refl _)
      | (with_reducible exact LeO.none _)
      | (with_reducible refine LeO.ite ?_ ?_)
      | (with_reducible refine LeO.bind ?_ (fun _ => ?_))
      | exact ih0 _ _ _ _ _ _ _
      | exact ih1 _ _ _ _ _ _ _ _ _
      | exact spec_PenaltyAt.mono _ _ _ _ _
      | exact spec_l18Penalty.mono _ _ _ _ _ _
      | exact LeO.none _
      | refine LeO.ite ?_ ?_
      | refine LeO.bind ?_ (fun _ => ?_)
set_option maxHeartbeats 8000000 in
set_option maxRecDepth 100000 in
theorem spec_HeldAt.calls (k : Nat) (A0 : Option Addr) (c0 : Nat) (l0 : List Int) (a1 : Int) (a2 : Int) (a3 : Int) (a4 : Int) (a5 : Int) (r : Bool) (w : World) (hr0 : Kd.C (Kd.int .i64) w A0 l0.length l0) (hc0 : l0.length ≤ c0) (h : spec_HeldAt.f k l0 a1 a2 a3 a4 a5 = some r) :
    Calls Try.prog 32 #[.slice A0 l0.length c0, .int .i64 a1, .int .i64 a2, .int .i64 a3, .int .i64 a4, .int .i64 a5] w fun e w' => e = .returned (.bool r) ∧ Below w.heap.size w w' := by
  have HR0 := Aside0.mk hr0
  have HC0 := Aside0.mk hc0
  clear hr0 hc0
  have HB := Aside0.mk (Below.refl w.heap.size w)
  have H : ((spec_PenaltyAt.f k l0 a1 a2 a5).bind fun t329 => (if t329 < 0 then (spec_HeldAt.j0 k l0 a1 a2 a3 a4 a5 true) else ((spec_l1In.f a3 0 1000).bind fun t330 => (if t330 = true then ((spec_l1In.f a4 0 a3).bind fun t331 => (spec_HeldAt.j0 k l0 a1 a2 a3 a4 a5 (!t331))) else (spec_HeldAt.j0 k l0 a1 a2 a3 a4 a5 true))))) = some r := h
  clear h
  have HC7 := Aside0.mk H
  clear H
  go_enter Try.func32, Try.ntmps32
  go_upto_region 1 with (fail)
  go_cut [32] (fun v32 wc => ∃ (kq : Nat) (x32_6 : Bool), v32 = .bool x32_6 ∧ Aside0 (spec_HeldAt.j0 kq l0 a1 a2 a3 a4 a5 x32_6 = some r) ∧ Aside0 (kq ≤ k) ∧ Aside0 (Below w.heap.size w wc))
  case first =>
    have H := HC7.out
    clear HC7
    replace H := Option.bind_eq_some_iff.mp H
    obtain ⟨t329, A80, H⟩ := H
    replace H : (if t329 < 0 then (spec_HeldAt.j0 k l0 a1 a2 a3 a4 a5 true) else ((spec_l1In.f a3 0 1000).bind fun t330 => (if t330 = true then ((spec_l1In.f a4 0 a3).bind fun t331 => (spec_HeldAt.j0 k l0 a1 a2 a3 a4 a5 (!t331))) else (spec_HeldAt.j0 k l0 a1 a2 a3 a4 a5 true)))) = some r := H
    have A8 := Aside0.mk A80
    clear A80
    by_cases c9 : t329 < 0
    · rw [if_pos c9] at H
      have c9b0 : decide (t329 < 0) = true := decide_eq_true c9
      clear c9
      (first | rw [c9b0] | (simp only [i64_w, i32_w]; rw [c9b0]) | skip)
      have H' := Aside0.mk H
      clear H
      go_wp2_with (first | ((with_reducible refine gate_callee (f := 24) rfl ?_); refine goesL_ (some 20) rfl rfl Try.func24 (by kernel_rfl) rfl #[.slice A0 l0.length c0, .int .i64 a1, .int .i64 a2, .int .i64 a5] rfl (by (try simp only [List.map_toArray, List.map_cons, List.map_nil]); first | done | rfl | (simp only [List.length_drop, List.length_take]; rfl)) ?_; (with_reducible refine (spec_PenaltyAt.calls k _ _ l0 a1 a2 a5 t329 _ ?side1 ?side2 A8.out).mono ?_); (case side1 => repeat (first | exact (Kd.C_below HR0.out HB.out) | (with_reducible refine Kd.C_alloc ?_ _) | (with_reducible refine Kd.C_drewN ?_ _) | (with_reducible refine Kd.C_drew ?_))); (case side2 => exact HC0.out); rintro e w10 ⟨rfl, hb⟩; refine ⟨_, rfl, ?_⟩; have n0_ := Aside0.mk (below_step (by repeat (first | (with_reducible first | exact HB.out | apply below_alloc | apply pw_below_drewN | apply below_drew1) | exact HB.out)) hb); clear HB; have HB := n0_; clear n0_; (try clear hb); (try clear hb2); (try clear hk); (try clear hi)))
      go_meet
      case rel => exact ⟨_, (true), (by first | rfl | (simp; done) | (simp [*]; done)), H', ⟨by first | omega | exact Nat.le_refl _⟩, ⟨by repeat (first | (with_reducible first | exact HB.out | apply below_alloc | apply pw_below_drewN | apply below_drew1) | exact HB.out)⟩⟩
    · rw [if_neg c9] at H
      have c9b0 : decide (t329 < 0) = false := decide_eq_false c9
      clear c9
      (first | rw [c9b0] | (simp only [i64_w, i32_w]; rw [c9b0]) | skip)
      replace H := Option.bind_eq_some_iff.mp H
      obtain ⟨t330, A110, H⟩ := H
      replace H : (if t330 = true then ((spec_l1In.f a4 0 a3).bind fun t331 => (spec_HeldAt.j0 k l0 a1 a2 a3 a4 a5 (!t331))) else (spec_HeldAt.j0 k l0 a1 a2 a3 a4 a5 true)) = some r := H
      have A11 := Aside0.mk A110
      clear A110
      by_cases c12 : t330 = true
      · subst c12
        have H1 : ((spec_l1In.f a4 0 a3).bind fun t331 => (spec_HeldAt.j0 k l0 a1 a2 a3 a4 a5 (!t331))) = some r := by rw [if_pos rfl] at H; exact H
        clear H
        have H := H1
        clear H1
        replace H := Option.bind_eq_some_iff.mp H
        obtain ⟨t331, A130, H⟩ := H
        replace H : (spec_HeldAt.j0 k l0 a1 a2 a3 a4 a5 (!t331)) = some r := H
        have A13 := Aside0.mk A130
        clear A130
        have H' := Aside0.mk H
        clear H
        go_wp2_with (first | ((with_reducible refine gate_callee (f := 24) rfl ?_); refine goesL_ (some 20) rfl rfl Try.func24 (by kernel_rfl) rfl #[.slice A0 l0.length c0, .int .i64 a1, .int .i64 a2, .int .i64 a5] rfl (by (try simp only [List.map_toArray, List.map_cons, List.map_nil]); first | done | rfl | (simp only [List.length_drop, List.length_take]; rfl)) ?_; (with_reducible refine (spec_PenaltyAt.calls k _ _ l0 a1 a2 a5 t329 _ ?side1 ?side2 A8.out).mono ?_); (case side1 => repeat (first | exact (Kd.C_below HR0.out HB.out) | (with_reducible refine Kd.C_alloc ?_ _) | (with_reducible refine Kd.C_drewN ?_ _) | (with_reducible refine Kd.C_drew ?_))); (case side2 => exact HC0.out); rintro e w14 ⟨rfl, hb⟩; refine ⟨_, rfl, ?_⟩; have n0_ := Aside0.mk (below_step (by repeat (first | (with_reducible first | exact HB.out | apply below_alloc | apply pw_below_drewN | apply below_drew1) | exact HB.out)) hb); clear HB; have HB := n0_; clear n0_; (try clear hb); (try clear hb2); (try clear hk); (try clear hi)) | (go_at_call 51; (with_reducible refine (spec_l1In.calls a3 0 1000 true _ A11.out).mono ?_); rintro e w' ⟨rfl, ⟨nd, rfl⟩⟩) | (go_at_call 51; (with_reducible refine (spec_l1In.calls a4 0 a3 t331 _ A13.out).mono ?_); rintro e w' ⟨rfl, ⟨nd, rfl⟩⟩))
        go_meet
        case rel => exact ⟨_, (!t331), (by first | rfl | (simp; done) | (simp [*]; done)), H', ⟨by first | omega | exact Nat.le_refl _⟩, ⟨by repeat (first | (with_reducible first | exact HB.out | apply below_alloc | apply pw_below_drewN | apply below_drew1) | exact HB.out)⟩⟩
      · replace c12 := Bool.eq_false_iff.mpr c12
        subst c12
        have H1 : (spec_HeldAt.j0 k l0 a1 a2 a3 a4 a5 true) = some r := by rw [if_neg (show ¬ (false = true) by decide)] at H; exact H
        clear H
        have H := H1
        clear H1
        have H' := Aside0.mk H
        clear H
        go_wp2_with (first | ((with_reducible refine gate_callee (f := 24) rfl ?_); refine goesL_ (some 20) rfl rfl Try.func24 (by kernel_rfl) rfl #[.slice A0 l0.length c0, .int .i64 a1, .int .i64 a2, .int .i64 a5] rfl (by (try simp only [List.map_toArray, List.map_cons, List.map_nil]); first | done | rfl | (simp only [List.length_drop, List.length_take]; rfl)) ?_; (with_reducible refine (spec_PenaltyAt.calls k _ _ l0 a1 a2 a5 t329 _ ?side1 ?side2 A8.out).mono ?_); (case side1 => repeat (first | exact (Kd.C_below HR0.out HB.out) | (with_reducible refine Kd.C_alloc ?_ _) | (with_reducible refine Kd.C_drewN ?_ _) | (with_reducible refine Kd.C_drew ?_))); (case side2 => exact HC0.out); rintro e w15 ⟨rfl, hb⟩; refine ⟨_, rfl, ?_⟩; have n0_ := Aside0.mk (below_step (by repeat (first | (with_reducible first | exact HB.out | apply below_alloc | apply pw_below_drewN | apply below_drew1) | exact HB.out)) hb); clear HB; have HB := n0_; clear n0_; (try clear hb); (try clear hb2); (try clear hk); (try clear hi)) | (go_at_call 51; (with_reducible refine (spec_l1In.calls a3 0 1000 false _ A11.out).mono ?_); rintro e w' ⟨rfl, ⟨nd, rfl⟩⟩))
        go_meet
        case rel => exact ⟨_, (true), (by first | rfl | (simp; done) | (simp [*]; done)), H', ⟨by first | omega | exact Nat.le_refl _⟩, ⟨by repeat (first | (with_reducible first | exact HB.out | apply below_alloc | apply pw_below_drewN | apply below_drew1) | exact HB.out)⟩⟩
  case rest =>
    clear HC7
    try clear c1
    try clear c2
    try clear p2
    try clear c3
    try clear c9
    try clear c9b0
    try clear c12
    obtain ⟨kq, x32_6, rfl, HA, HJ6, HB⟩ := hcut
    cases kq with
    | zero => exact absurd HA.out (by simp [spec_HeldAt.j0])
    | succ kj6 =>
      have H := HA.out
      clear HA
      simp only [spec_HeldAt.j0] at H
      by_cases c16 : x32_6 = true
      · subst c16
        have H1 : (some false) = some r := by rw [if_pos rfl] at H; exact H
        clear H
        have H := H1
        clear H1
        obtain rfl := Option.some.inj H
        go_wp2
        go_ret
        exact ⟨by first | rfl | (simp [errW_none, errW_some] <;> rfl) | (simp [*, errW_none, errW_some] <;> rfl), by repeat (first | (with_reducible first | exact HB.out | apply below_alloc | apply pw_below_drewN | apply below_drew1) | exact HB.out)⟩
      · replace c16 := Bool.eq_false_iff.mpr c16
        subst c16
        have H1 : (spec_HeldAt.l0 kj6 l0 a1 a2 a3 a4 a5 0 false 0) = some r := by rw [if_neg (show ¬ (false = true) by decide)] at H; exact H
        clear H
        have H := H1
        clear H1
        have H' := Aside0.mk H
        clear H
        go_wp2
        go_loopg [13, 14, 15] kj6 (fun kq v13 v14 v15 w' => ∃ (x13_2 : Int) (x14_2 : Bool) (x15_2 : Int), v13 = .int .i64 x13_2 ∧ v14 = .bool x14_2 ∧ v15 = .int .i64 x15_2 ∧ Aside0 (spec_HeldAt.l0 kq l0 a1 a2 a3 a4 a5 x13_2 x14_2 x15_2 = some r) ∧ Aside0 (kq ≤ kj6) ∧ Aside0 (Below w.heap.size w w'))
        case atStart => exact ⟨(0), (false), (0), (by first | rfl | (simp; done) | (simp [*]; done)), (by first | rfl | (simp; done) | (simp [*]; done)), (by first | rfl | (simp; done) | (simp [*]; done)), H', ⟨Nat.le_refl _⟩, ⟨by repeat (first | (with_reducible first | exact HB.out | apply below_alloc | apply pw_below_drewN | apply below_drew1) | exact HB.out)⟩⟩
        case round =>
          clear H'
          try clear c1
          try clear c2
          try clear p2
          try clear c3
          try clear c9
          try clear c9b0
          try clear c12
          try clear c16
          try clear p2
          obtain ⟨x13_2, x14_2, x15_2, rfl, rfl, rfl, HA, HK2, HB⟩ := hrel
          cases gk with
          | zero => exact absurd HA.out (by simp [spec_HeldAt.l0])
          | succ k2 =>
            have H := HA.out
            clear HA
            simp only [spec_HeldAt.l0] at H
            by_cases c17 : x15_2 ≤ a5
            · rw [if_pos c17] at H
              have c17b0 : decide (x15_2 ≤ a5) = true := decide_eq_true c17
              clear c17
              replace H := Option.bind_eq_some_iff.mp H
              obtain ⟨t332, A180, H⟩ := H
              replace H : (if x14_2 = true then (spec_HeldAt.l0 k2 l0 a1 a2 a3 a4 a5 t332 (decide (t332 > a4)) (wrap64 (x15_2 + 1))) else (spec_HeldAt.l0 k2 l0 a1 a2 a3 a4 a5 t332 (decide (t332 > a3)) (wrap64 (x15_2 + 1)))) = some r := H
              have A18 := Aside0.mk A180
              clear A180
              by_cases c19 : x14_2 = true
              · subst c19
                have H1 : (spec_HeldAt.l0 k2 l0 a1 a2 a3 a4 a5 t332 (decide (t332 > a4)) (wrap64 (x15_2 + 1))) = some r := by rw [if_pos rfl] at H; exact H
                clear H
                have H := H1
                clear H1
                have H' := Aside0.mk H
                clear H
                go_wp2_with (first | ((with_reducible refine gate_callee (f := 52) rfl ?_); refine goesL_ (some 43) rfl rfl Try.func52 (by kernel_rfl) rfl #[.slice A0 l0.length c0, .int .i64 a1, .int .i64 a2, .int .i64 x15_2, .int .i64 x13_2] rfl (by (try simp only [List.map_toArray, List.map_cons, List.map_nil]); first | done | rfl | (simp only [List.length_drop, List.length_take]; rfl)) ?_; (with_reducible refine (spec_l18Penalty.calls k2 _ _ l0 a1 a2 x15_2 x13_2 t332 _ ?side1 ?side2 A18.out).mono ?_); (case side1 => repeat (first | exact (Kd.C_below HR0.out HB.out) | (with_reducible refine Kd.C_alloc ?_ _) | (with_reducible refine Kd.C_drewN ?_ _) | (with_reducible refine Kd.C_drew ?_))); (case side2 => exact HC0.out); rintro e w20 ⟨rfl, hb⟩; refine ⟨_, rfl, ?_⟩; have n0_ := Aside0.mk (below_step (by repeat (first | (with_reducible first | exact HB.out | apply below_alloc | apply pw_below_drewN | apply below_drew1) | exact HB.out)) hb); clear HB; have HB := n0_; clear n0_; (try clear hb); (try clear hb2); (try clear hk); (try clear hi)))
                go_roundg k2
                case measure => have := HJ6.out; have := HK2.out; omega
                case rel => exact ⟨(t332), (decide (t332 > a4)), (wrap64 (x15_2 + 1)), (by first | rfl | (simp; done) | (simp [*]; done)), (by first | rfl | (simp; done) | (simp [*]; done)), (by first | rfl | (simp; done) | (simp [*]; done)), H', ⟨by have := HJ6.out; have := HK2.out; omega⟩, ⟨by repeat (first | (with_reducible first | exact HB.out | apply below_alloc | apply pw_below_drewN | apply below_drew1) | exact HB.out)⟩⟩
              · replace c19 := Bool.eq_false_iff.mpr c19
                subst c19
                have H1 : (spec_HeldAt.l0 k2 l0 a1 a2 a3 a4 a5 t332 (decide (t332 > a3)) (wrap64 (x15_2 + 1))) = some r := by rw [if_neg (show ¬ (false = true) by decide)] at H; exact H
                clear H
                have H := H1
                clear H1
                have H' := Aside0.mk H
                clear H
                go_wp2_with (first | ((with_reducible refine gate_callee (f := 52) rfl ?_); refine goesL_ (some 43) rfl rfl Try.func52 (by kernel_rfl) rfl #[.slice A0 l0.length c0, .int .i64 a1, .int .i64 a2, .int .i64 x15_2, .int .i64 x13_2] rfl (by (try simp only [List.map_toArray, List.map_cons, List.map_nil]); first | done | rfl | (simp only [List.length_drop, List.length_take]; rfl)) ?_; (with_reducible refine (spec_l18Penalty.calls k2 _ _ l0 a1 a2 x15_2 x13_2 t332 _ ?side1 ?side2 A18.out).mono ?_); (case side1 => repeat (first | exact (Kd.C_below HR0.out HB.out) | (with_reducible refine Kd.C_alloc ?_ _) | (with_reducible refine Kd.C_drewN ?_ _) | (with_reducible refine Kd.C_drew ?_))); (case side2 => exact HC0.out); rintro e w21 ⟨rfl, hb⟩; refine ⟨_, rfl, ?_⟩; have n0_ := Aside0.mk (below_step (by repeat (first | (with_reducible first | exact HB.out | apply below_alloc | apply pw_below_drewN | apply below_drew1) | exact HB.out)) hb); clear HB; have HB := n0_; clear n0_; (try clear hb); (try clear hb2); (try clear hk); (try clear hi)))
                go_roundg k2
                case measure => have := HJ6.out; have := HK2.out; omega
                case rel => exact ⟨(t332), (decide (t332 > a3)), (wrap64 (x15_2 + 1)), (by first | rfl | (simp; done) | (simp [*]; done)), (by first | rfl | (simp; done) | (simp [*]; done)), (by first | rfl | (simp; done) | (simp [*]; done)), H', ⟨by have := HJ6.out; have := HK2.out; omega⟩, ⟨by repeat (first | (with_reducible first | exact HB.out | apply below_alloc | apply pw_below_drewN | apply below_drew1) | exact HB.out)⟩⟩
            · rw [if_neg c17] at H
              have c17b0 : decide (x15_2 ≤ a5) = false := decide_eq_false c17
              clear c17
              obtain rfl := Option.some.inj H
              go_wp2
              go_ret
              exact ⟨by first | rfl | (simp [errW_none, errW_some] <;> rfl) | (simp [*, errW_none, errW_some] <;> rfl), by repeat (first | (with_reducible first | exact HB.out | apply below_alloc | apply pw_below_drewN | apply below_drew1) | exact HB.out)⟩

/-! ### impl_HeldAt: function 33 (by hand) -/
def heldS (hi lo : Int) (s : Bool) (p : Int) : Bool := if p ≤ lo then false else if hi < p then true else s
def heldF (l : List Int) (cost fade hi lo t : Int) : Bool := (decide (0 ≤ lo) && decide (lo ≤ hi)) && ((decide (lo ≤ hi) && decide (hi ≤ 1000)) && (penOk l cost fade t && penEnd (heldS hi lo) false l cost fade t))
set_option maxHeartbeats 4000000 in
set_option maxRecDepth 100000 in
theorem x_HeldAt_1 {hi lo : Int} {bh bl bs : Nat} {w0 w : World} (hge : w0.heap.size ≤ bs) (hh : w.heap[bh]? = some (.cells #[.int .i64 hi] 3 (0, 0))) (hl : w.heap[bl]? = some (.cells #[.int .i64 lo] 3 (0, 0))) (n1 : bh ≠ bs) (n2 : bl ≠ bs) :
    TellB Try.prog 56 #[.pointer (some ⟨bh, 0, none⟩), .pointer (some ⟨bs, 0, none⟩), .pointer (some ⟨bl, 0, none⟩)] Value.bool 4 (heldS hi lo) bs w0 w := by
  intro W v p hB hK hH
  have ch := cell_of_one (hK.blk hh n1 (by simp))
  have cl := cell_of_one (hK.blk hl n2 (by simp))
  have cl2 := fun u => cell_of_one (blk_far (p := ⟨bs, 0, none⟩) (hK.blk hl n2 (by simp)) n2 u)
  have hc := cell_of_one hH
  have hf := free_of_one hH
  have hf2 := fun u => free_of_one (one_setCell (u := u) hH)
  have hc2 := fun u => cell_of_one (one_setCell (u := u) hH)
  have HX := Aside0.mk (And.intro hB hH)
  have HS : Aside0 (heldS hi lo v p = if p ≤ lo then false else if hi < p then true else v) := ⟨rfl⟩
  clear hB hK hH hh hl
  generalize heldS hi lo v p = z at HS ⊢
  by_cases h1 : hi < p
  · have h1b : decide (hi < p) = true := decide_eq_true h1
    by_cases h2 : p ≤ lo
    · have h2b : decide (p ≤ lo) = true := decide_eq_true h2
      have HZ : Aside0 (z = false) := ⟨by rw [HS.out, if_pos h2]⟩
      clear h1 h2 HS
      go_enter Try.func56, Try.ntmps56
      go_wp2
      go_end0
      exact ⟨rfl, (HX.out.1.setCell hge _).setCell hge _, ((KeepBut.refl W bs none).set_ 0 _).set_ 0 _, by rw [HZ.out]; exact one_setCell (one_setCell HX.out.2)⟩
    · have h2b : decide (p ≤ lo) = false := decide_eq_false h2
      have HZ : Aside0 (z = true) := ⟨by rw [HS.out, if_neg h2, if_pos h1]⟩
      clear h1 h2 HS
      go_enter Try.func56, Try.ntmps56
      go_wp2
      go_end0
      exact ⟨rfl, HX.out.1.setCell hge _, (KeepBut.refl W bs none).set_ 0 _, by rw [HZ.out]; exact one_setCell HX.out.2⟩
  · have h1b : decide (hi < p) = false := decide_eq_false h1
    by_cases h2 : p ≤ lo
    · have h2b : decide (p ≤ lo) = true := decide_eq_true h2
      have HZ : Aside0 (z = false) := ⟨by rw [HS.out, if_pos h2]⟩
      clear h1 h2 HS
      go_enter Try.func56, Try.ntmps56
      go_wp2
      go_end0
      exact ⟨rfl, HX.out.1.setCell hge _, (KeepBut.refl W bs none).set_ 0 _, by rw [HZ.out]; exact one_setCell HX.out.2⟩
    · have h2b : decide (p ≤ lo) = false := decide_eq_false h2
      have HZ : Aside0 (z = v) := ⟨by rw [HS.out, if_neg h2, if_neg h1]⟩
      clear h1 h2 HS
      go_enter Try.func56, Try.ntmps56
      go_wp2
      go_end0
      exact ⟨rfl, HX.out.1, KeepBut.refl W bs none, by rw [HZ.out]; exact HX.out.2⟩
def impl_HeldAt.f (l0 : List Int) (a1 : Int) (a2 : Int) (a3 : Int) (a4 : Int) (a5 : Int) : Option (Bool) :=
  some (heldF l0 a1 a2 a3 a4 a5)
set_option maxHeartbeats 4000000 in
set_option maxRecDepth 100000 in
theorem impl_HeldAt.calls (A0 : Option Addr) (c0 : Nat) (l0 : List Int) (a1 : Int) (a2 : Int) (a3 : Int) (a4 : Int) (a5 : Int) (r : Bool) (w : World) (hr0 : Kd.C (Kd.int .i64) w A0 l0.length l0) (hc0 : l0.length ≤ c0) (h : impl_HeldAt.f l0 a1 a2 a3 a4 a5 = some r) :
    Calls Try.prog 33 #[.slice A0 l0.length c0, .int .i64 a1, .int .i64 a2, .int .i64 a3, .int .i64 a4, .int .i64 a5] w fun e w' => e = .returned (.bool r) ∧ Below w.heap.size w w' := by
  obtain rfl := Option.some.inj h
  have hmf : ∀ (fn : Fn) (first cap : Array Value) (w : World), (Instr.makeFunc fn first cap).run Try.prog w = .ok (.func fn first cap) w := fun _ _ _ _ => rfl
  have hw1 := fun W => impl_within.calls a4 0 a3 _ W (within_eq a4 0 a3)
  have hw2 := fun W => impl_within.calls a3 a4 1000 _ W (within_eq a3 a4 1000)
  have HF : Aside0 (heldF l0 a1 a2 a3 a4 a5 = ((decide (0 ≤ a4) && decide (a4 ≤ a3)) && ((decide (a4 ≤ a3) && decide (a3 ≤ 1000)) && (penOk l0 a1 a2 a5 && penEnd (heldS a3 a4) false l0 a1 a2 a5)))) := ⟨rfl⟩
  have HB0 : Aside0 (Below w.heap.size w (((w.alloc (.cells #[.int .i64 a3] 3)).alloc (.cells #[.int .i64 a4] 3)).alloc (.cells #[.bool false] 4))) := ⟨(((Below.refl _ w).alloc (Nat.le_refl _) _).alloc (by simp) _).alloc (by simp; omega) _⟩
  have HC := Aside0.mk (fun (W : World) (hW : Below (w.heap.size + 3) (((w.alloc (.cells #[.int .i64 a3] 3)).alloc (.cells #[.int .i64 a4] 3)).alloc (.cells #[.bool false] 4)) W) =>
    x_penalties Value.bool 4 (heldS a3 a4) 56 #[.pointer (some ⟨w.heap.size, 0, none⟩), .pointer (some ⟨w.heap.size + 1 + 1, 0, none⟩), .pointer (some ⟨w.heap.size + 1, 0, none⟩)] (enters_of Try.func56 (by kernel_rfl) rfl) (w.heap.size + 1 + 1) A0 c0 l0 a1 a2 a5 false w W
      (x_HeldAt_1 (by omega) ((hW.block w.heap.size (by omega)).trans (blk_alloc (blk_alloc (blk_new w _) _) _)) ((hW.block (w.heap.size + 1) (by omega)).trans (blk_alloc (blk_new_at (.cells #[.int .i64 a4] 3) (w.heap.size + 1) (by simp)) _)) (by omega) (by omega))
      (HB0.out.trans (hW.mono (by omega))) ((hW.block (w.heap.size + 1 + 1) (by omega)).trans (blk_new_at (.cells #[.bool false] 4) (w.heap.size + 1 + 1) (by simp))) hr0 hc0)
  clear h hr0 hc0
  generalize heldF l0 a1 a2 a3 a4 a5 = z at HF ⊢
  generalize (decide (0 ≤ a4) && decide (a4 ≤ a3)) = z1 at HF hw1
  generalize (decide (a4 ≤ a3) && decide (a3 ≤ 1000)) = z2 at HF hw2
  generalize penOk l0 a1 a2 a5 = z3 at HF HC
  generalize penEnd (heldS a3 a4) false l0 a1 a2 a5 = z4 at HF HC
  cases z1 with
  | false =>
    have HZ : Aside0 (z = false) := ⟨by rw [HF.out]; rfl⟩
    clear HF
    go_enter Try.func33, Try.ntmps33
    go_wp2_with fail
    refine (hw1 _).mono ?_
    rintro e w1 ⟨rfl, hd1⟩
    go_wp2_with fail
    go_ret
    exact ⟨by rw [HZ.out]; rfl, below_base HB0.out hd1.below⟩
  | true =>
  cases z2 with
  | false =>
    have HZ : Aside0 (z = false) := ⟨by rw [HF.out]; rfl⟩
    clear HF
    go_enter Try.func33, Try.ntmps33
    go_wp2_with fail
    refine (hw1 _).mono ?_
    rintro e w1 ⟨rfl, hd1⟩
    have hc3 := pw_cell_below hd1.below (cell_of_one (blk_alloc (blk_alloc (blk_new w (.cells #[.int .i64 a3] 3)) (.cells #[.int .i64 a4] 3)) (.cells #[.bool false] 4)))
    have hc4 := pw_cell_below hd1.below (cell_of_one (blk_alloc (blk_new_at (.cells #[.int .i64 a4] 3) (w.heap.size + 1) (by simp)) (.cells #[.bool false] 4)))
    go_wp2_with fail
    refine (hw2 _).mono ?_
    rintro e w2 ⟨rfl, hd2⟩
    go_wp2_with fail
    go_ret
    exact ⟨by rw [HZ.out]; rfl, below_base HB0.out (below_step hd1.below hd2.below)⟩
  | true =>
    have HZ : Aside0 (z = (z3 && z4)) := ⟨by rw [HF.out]; rfl⟩
    clear HF
    go_enter Try.func33, Try.ntmps33
    go_wp2_with fail
    refine (hw1 _).mono ?_
    rintro e w1 ⟨rfl, hd1⟩
    have hc3 := pw_cell_below hd1.below (cell_of_one (blk_alloc (blk_alloc (blk_new w (.cells #[.int .i64 a3] 3)) (.cells #[.int .i64 a4] 3)) (.cells #[.bool false] 4)))
    have hc4 := pw_cell_below hd1.below (cell_of_one (blk_alloc (blk_new_at (.cells #[.int .i64 a4] 3) (w.heap.size + 1) (by simp)) (.cells #[.bool false] 4)))
    go_wp2_with fail
    refine (hw2 _).mono ?_
    rintro e w2 ⟨rfl, hd2⟩
    go_wp2_with fail
    refine (HC.out _ (by simpa using below_step hd1.below hd2.below)).mono ?_
    rintro e w3 ⟨rfl, hb3, hk3, hh3⟩
    have hc5 := cell_of_one hh3
    clear hk3 hh3
    cases z3
    all_goals
      go_wp2
      go_ret
      exact ⟨by rw [HZ.out]; rfl, hb3⟩

-- LIB p18held
theorem held_step {hi lo : Int} (h : lo ≤ hi) (s : Bool) (p : Int) : heldS hi lo s p = if s = true then decide (p > lo) else decide (p > hi) := by
  unfold heldS
  by_cases c1 : p ≤ lo
  · rw [if_pos c1, decide_eq_false (show ¬ p > lo by omega), decide_eq_false (show ¬ p > hi by omega)]
    cases s <;> rfl
  · rw [if_neg c1, decide_eq_true (show p > lo by omega)]
    by_cases c2 : hi < p
    · rw [if_pos c2, decide_eq_true c2]; cases s <;> rfl
    · rw [if_neg c2, decide_eq_false c2]; cases s <;> rfl
theorem sheld_at (l : List Int) (cost fade hi lo : Int) (hlo : lo ≤ hi) (hl : l.length ≤ 60) (t : Nat) (ht : t ≤ 2000) (d : Nat) : ∀ (k i : Nat), i + d = t + 1 → d + 60 < k →
    spec_HeldAt.l0 k l cost fade hi lo t (penN l cost fade i) (seeN (heldS hi lo) false l cost fade i) i = some (seeN (heldS hi lo) false l cost fade (t + 1)) := by
  induction d with
  | zero =>
    intro k i h2 hk
    obtain ⟨k, rfl⟩ : ∃ m, k = m + 1 := ⟨k - 1, by omega⟩
    simp only [spec_HeldAt.l0]
    rw [if_neg (by omega), show i = t + 1 by omega]
  | succ d ih =>
    intro k i h2 hk
    obtain ⟨k, rfl⟩ : ∃ m, k = m + 1 := ⟨k - 1, by omega⟩
    have ih' := ih k (i + 1) (by omega) (by omega)
    simp only [spec_HeldAt.l0]
    rw [if_pos (by omega), penStep_eq l cost fade i _ (by omega) k (by omega), Option.bind_some, wrap_succ (show i < t + 1 by omega) (by omega)]
    have e1 : penS l cost fade i (penN l cost fade i) = penN l cost fade (i + 1) := rfl
    have e2 : seeN (heldS hi lo) false l cost fade (i + 1) = heldS hi lo (seeN (heldS hi lo) false l cost fade i) (penN l cost fade (i + 1)) := rfl
    rw [e1]
    rw [e2, held_step hlo] at ih'
    by_cases c : seeN (heldS hi lo) false l cost fade i = true
    · rw [if_pos c]
      rw [if_pos c] at ih'
      exact ih'
    · rw [if_neg c]
      rw [if_neg c] at ih'
      exact ih'
theorem sheld_eq (l : List Int) (cost fade hi lo t : Int) (hl : l.length ≤ 9223372036854775807) (k : Nat) (hk : l.length < k) (hk2 : 2200 < k) : spec_HeldAt.f k l cost fade hi lo t = some (heldF l cost fade hi lo t) := by
  unfold spec_HeldAt.f
  rw [spen_eq l cost fade t hl k hk (by omega), Option.bind_some, l1In_is, l1In_is]
  obtain ⟨k, rfl⟩ : ∃ m, k = m + 1 := ⟨k - 1, by omega⟩
  simp only [spec_HeldAt.j0, Option.bind_some]
  unfold penF heldF
  cases ho : penOk l cost fade t with
  | false =>
    rw [if_neg (show ¬ false = true by decide), if_pos (by decide), if_pos trivial]
    simp
  | true =>
    obtain ⟨h0, h1, h2, h3, h4, h5, h6, h7⟩ := penOk_facts ho
    obtain ⟨n, rfl⟩ := Int.eq_ofNat_of_zero_le h6
    have hr := penN_range (l := l) h2 h3 h4 h5 (n + 1) (by omega)
    rw [if_pos rfl, Int.toNat_natCast, if_neg (by omega)]
    by_cases c1 : 0 ≤ hi ∧ hi ≤ 1000
    · rw [if_pos (by simp; omega)]
      by_cases c2 : 0 ≤ lo ∧ lo ≤ hi
      · rw [if_neg (by simp; omega)]
        have e := sheld_at l cost fade hi lo c2.2 h1 n (by omega) (n + 1) k 0 (by omega) (by omega)
        refine Eq.trans e ?_
        rw [decide_eq_true c2.1, decide_eq_true c2.2, decide_eq_true c1.2, penEnd, ho, if_pos rfl, Int.toNat_natCast]
        rfl
      · rw [if_pos (by simp; omega)]
        by_cases c3 : 0 ≤ lo
        · rw [decide_eq_false (show ¬ lo ≤ hi by omega)]; simp
        · rw [decide_eq_false c3]; simp
    · rw [if_neg (by simp; omega), if_pos trivial]
      by_cases c2 : 0 ≤ lo
      · by_cases c3 : lo ≤ hi
        · rw [decide_eq_false (show ¬ hi ≤ 1000 by omega)]; simp
        · rw [decide_eq_false c3]; simp
      · rw [decide_eq_false c2]; simp

end Go.Proofs.Ytjhidlmaphdelaa.PAll

/- Proved here: contracts of functions of the given program, or lemmas on them, for the laws of this seat. Written by xprint.py, a program of this session, on the ground of the kit's print; parts by hand: wip/x/ext. -/
import Derived.Test.YtjhidlmaphdelaaPAllx0
import Derived.Test.YtjhidlmaphdelaaPAllx2
namespace Go.Proofs.Ytjhidlmaphdelaa.PAll
open Go.RowKit Go.Proofs.YtjhidlmaphdelaaW.PrintWords Go.Proofs.YtjhidlmaphdelaaW.PrintLast Go.Proofs.YtjhidlmaphdelaaW.PrintMore
attribute [local go_sem] max2_int min2_int max_two min_two max_three min_three max_four min_four   -- for this text's walks alone
set_option linter.unusedVariables false
set_option linter.unusedSimpArgs false

/-! ### spec_l10Has: function 64 -/
def spec_l10Has.l0 : Nat → List Int → Int → Int → Option (Bool)
  | 0, _, _, _ => none
  | k + 1, x0, x1, x5 => if x5 < (x0.length : Int) then (if 0 ≤ x5 then (if (rd x0 x5) = x1 then (some true) else (spec_l10Has.l0 k x0 x1 (wrap64 (x5 + 1)))) else (none)) else (some false)
def spec_l10Has.f (k : Nat) (l0 : List Int) (a1 : Int) : Option (Bool) := spec_l10Has.l0 k l0 a1 0
theorem spec_l10Has.mono_l : ∀ k, (∀ y0 y1 y2, LeO (spec_l10Has.l0 k y0 y1 y2) (spec_l10Has.l0 (k + 1) y0 y1 y2))
  | 0 => fun _ _ _ r h => by simp [spec_l10Has.l0] at h
  | k + 1 => by
    have ih0 := spec_l10Has.mono_l k
    · intro y0 y1 y2
      unfold spec_l10Has.l0
      repeat' first
      | (with_reducible exact ih0 _ _ _)
      | (with_reducible exact LeO.refl _)
      | (with_reducible exact LeO.none _)
      | (with_reducible refine LeO.ite ?_ ?_)
      | (with_reducible refine LeO.bind ?_ (fun _ => ?_))
      | exact ih0 _ _ _
      | exact LeO.none _
      | refine LeO.ite ?_ ?_
      | refine LeO.bind ?_ (fun _ => ?_)
theorem spec_l10Has.mono : ∀ a0 a1 k, LeO (spec_l10Has.f k a0 a1) (spec_l10Has.f (k + 1) a0 a1) := by
  intro a0 a1 k
  have ih0 := spec_l10Has.mono_l k
  unfold spec_l10Has.f
  repeat' first
      | (with_reducible exact ih0 _ _ _)
      | (with_reducible exact LeO.refl _)
      | (with_reducible exact LeO.none _)
      | (with_reducible refine LeO.ite ?_ ?_)
      | (with_reducible refine LeO.bind ?_ (fun _ => ?_))
      | exact ih0 _ _ _
      | exact LeO.none _
      | refine LeO.ite ?_ ?_
      | refine LeO.bind ?_ (fun _ => ?_)
set_option maxHeartbeats 8000000 in
set_option maxRecDepth 100000 in
theorem spec_l10Has.calls (k : Nat) (A0 : Option Addr) (c0 : Nat) (l0 : List Int) (a1 : Int) (r : Bool) (w : World) (hr0 : Kd.C (Kd.int .i64) w A0 l0.length l0) (hc0 : l0.length ≤ c0) (h : spec_l10Has.f k l0 a1 = some r) :
    Calls Try.prog 64 #[.slice A0 l0.length c0, .int .i64 a1] w fun e w' => e = .returned (.bool r) ∧ Drawn0 w w' := by
  have HR0 := Aside0.mk hr0
  have HC0 := Aside0.mk hc0
  clear hr0 hc0
  have H : (spec_l10Has.l0 k l0 a1 0) = some r := h
  clear h
  have H' := Aside0.mk H
  clear H
  go_enter Try.func64, Try.ntmps64
  go_wp2
  go_loopg [5] k (fun kq v5 w' => ∃ (x5_1 : Int), v5 = .int .i64 x5_1 ∧ Aside0 (spec_l10Has.l0 kq l0 a1 x5_1 = some r) ∧ Aside0 (kq ≤ k) ∧ Drawn0 w w')
  case atStart => exact ⟨(0), (by first | rfl | (simp; done) | (simp [*]; done)), H', ⟨Nat.le_refl _⟩, by repeat (first | exact Drawn0.refl _ | apply Drawn0.step)⟩
  case round =>
    clear H'
    try clear p2
    obtain ⟨x5_1, rfl, HA, HK1, ⟨m1, rfl⟩⟩ := hrel
    cases gk with
    | zero => exact absurd HA.out (by simp [spec_l10Has.l0])
    | succ k1 =>
      have H := HA.out
      clear HA
      simp only [spec_l10Has.l0] at H
      by_cases c3 : x5_1 < (l0.length : Int)
      · rw [if_pos c3] at H
        have c3b0 : decide (x5_1 < (l0.length : Int)) = true := decide_eq_true c3
        clear c3
        by_cases c4 : 0 ≤ x5_1
        · rw [if_pos c4] at H
          have c4b0 : decide (0 ≤ x5_1) = true := decide_eq_true c4
          clear c4
          by_cases c5 : (rd l0 x5_1) = a1
          · rw [if_pos c5] at H
            have c5b0 : ((rd l0 x5_1) == a1) = true := beq_iff_eq.mpr c5
            have c5b1 : ((rd l0 x5_1) != a1) = false := bne_eq_false_iff_eq.mpr c5
            clear c5
            obtain rfl := Option.some.inj H
            have p227 : 0 ≤ (x5_1 : Int) := of_decide_eq_true (by first | (with_reducible assumption) | assumption)
            have q227 : x5_1 < (l0.length : Int) := of_decide_eq_true (by first | (with_reducible assumption) | assumption)
            obtain ⟨ad227, e227, hx227_0⟩ := Kd.at_int HR0.out x5_1 p227 q227
            cases e227
            replace p227 := eq_true p227
            replace q227 := eq_true q227
            go_wp2
            go_ret
            exact ⟨by first | rfl | (simp; done) | (simp [*]; done), by repeat (first | exact Drawn0.refl _ | apply Drawn0.step)⟩
          · rw [if_neg c5] at H
            have c5b0 : ((rd l0 x5_1) == a1) = false := beq_eq_false_iff_ne.mpr c5
            have c5b1 : ((rd l0 x5_1) != a1) = true := bne_iff_ne.mpr c5
            have H' := Aside0.mk H
            clear H
            have p227 : 0 ≤ (x5_1 : Int) := of_decide_eq_true (by first | (with_reducible assumption) | assumption)
            have q227 : x5_1 < (l0.length : Int) := of_decide_eq_true (by first | (with_reducible assumption) | assumption)
            obtain ⟨ad227, e227, hx227_0⟩ := Kd.at_int HR0.out x5_1 p227 q227
            cases e227
            replace p227 := eq_true p227
            replace q227 := eq_true q227
            go_wp2
            go_roundg k1
            case measure => have := HK1.out; omega
            case rel => exact ⟨(wrap64 (x5_1 + 1)), (by first | rfl | (simp; done) | (simp [*]; done)), H', ⟨by have := HK1.out; omega⟩, by repeat (first | exact Drawn0.refl _ | apply Drawn0.step)⟩
        · rw [if_neg c4] at H
          exact absurd H (by simp)
      · rw [if_neg c3] at H
        have c3b0 : decide (x5_1 < (l0.length : Int)) = false := decide_eq_false c3
        clear c3
        obtain rfl := Option.some.inj H
        go_wp2
        go_ret
        exact ⟨by first | rfl | (simp; done) | (simp [*]; done), by repeat (first | exact Drawn0.refl _ | apply Drawn0.step)⟩

/-! ### spec_l18Penalty: function 52 -/
def spec_l18Penalty.f (k : Nat) (l0 : List Int) (a1 : Int) (a2 : Int) (a3 : Int) (a4 : Int) : Option (Int) := (spec_l10Has.f k l0 a3).bind fun t228 => (if t228 = true then (some (wrap64 ((mx 0 (wrap64 (a4 - a2))) + a1))) else (some (mx 0 (wrap64 (a4 - a2)))))
theorem spec_l18Penalty.mono : ∀ a0 a1 a2 a3 a4 k, LeO (spec_l18Penalty.f k a0 a1 a2 a3 a4) (spec_l18Penalty.f (k + 1) a0 a1 a2 a3 a4) := by
  intro a0 a1 a2 a3 a4 k
  unfold spec_l18Penalty.f
  repeat' first
      | (with_reducible exact spec_l10Has.mono _ _ _)
      | (with_reducible exact LeO.refl _)
      | (with_reducible exact LeO.none _)
      | (with_reducible refine LeO.ite ?_ ?_)
      | (with_reducible refine LeO.bind ?_ (fun _ => ?_))
      | exact spec_l10Has.mono _ _ _
      | exact LeO.none _
      | refine LeO.ite ?_ ?_
      | refine LeO.bind ?_ (fun _ => ?_)
set_option maxHeartbeats 8000000 in
set_option maxRecDepth 100000 in
theorem spec_l18Penalty.calls (k : Nat) (A0 : Option Addr) (c0 : Nat) (l0 : List Int) (a1 : Int) (a2 : Int) (a3 : Int) (a4 : Int) (r : Int) (w : World) (hr0 : Kd.C (Kd.int .i64) w A0 l0.length l0) (hc0 : l0.length ≤ c0) (h : spec_l18Penalty.f k l0 a1 a2 a3 a4 = some r) :
    Calls Try.prog 52 #[.slice A0 l0.length c0, .int .i64 a1, .int .i64 a2, .int .i64 a3, .int .i64 a4] w fun e w' => e = .returned (.int .i64 r) ∧ Below w.heap.size w w' := by
  have HR0 := Aside0.mk hr0
  have HC0 := Aside0.mk hc0
  clear hr0 hc0
  have HB := Aside0.mk (Below.refl w.heap.size w)
  have H : ((spec_l10Has.f k l0 a3).bind fun t228 => (if t228 = true then (some (wrap64 ((mx 0 (wrap64 (a4 - a2))) + a1))) else (some (mx 0 (wrap64 (a4 - a2)))))) = some r := h
  clear h
  obtain ⟨ji6, hji6⟩ : ∃ j_ : Int, (mx 0 (wrap64 (a4 - a2))) = j_ := ⟨_, rfl⟩
  replace H : ((spec_l10Has.f k l0 a3).bind fun t228 => (if t228 = true then (some (wrap64 ((ji6) + a1))) else (some ji6))) = some r := by first | (rw [hji6] at H; exact H) | (simp only [hji6] at H ⊢; exact H)
  (try (have hji6l : 0 ≤ ji6 := by (rw [← hji6]; unfold mx; (repeat' split) <;> omega)))
  (try (have hji6m : 0 ≤ ji6 := by omega))
  have hji6_ : (if 0 < (wrap64 (a4 - a2)) then (wrap64 (a4 - a2)) else 0) = ji6 := hji6
  replace H := Option.bind_eq_some_iff.mp H
  obtain ⟨t228, A70, H⟩ := H
  replace H : (if t228 = true then (some (wrap64 ((ji6) + a1))) else (some ji6)) = some r := H
  have A7 := Aside0.mk A70
  clear A70
  by_cases c8 : t228 = true
  · subst c8
    have H1 : (some (wrap64 ((ji6) + a1))) = some r := by rw [if_pos rfl] at H; exact H
    clear H
    have H := H1
    clear H1
    obtain rfl := Option.some.inj H
    go_enter Try.func52, Try.ntmps52
    go_wp2_with (first | ((with_reducible refine gate_callee (f := 64) rfl ?_); refine goesL_ (some 17) rfl rfl Try.func64 (by kernel_rfl) rfl #[.slice A0 l0.length c0, .int .i64 a3] rfl (by (try simp only [List.map_toArray, List.map_cons, List.map_nil]); first | done | rfl | (simp only [List.length_drop, List.length_take]; rfl)) ?_; (with_reducible refine (spec_l10Has.calls k _ _ l0 a3 true _ ?side1 ?side2 A7.out).mono ?_); (case side1 => repeat (first | exact HR0.out | (with_reducible refine Kd.C_alloc ?_ _) | (with_reducible refine Kd.C_drewN ?_ _) | (with_reducible refine Kd.C_drew ?_))); (case side2 => exact HC0.out); rintro e w' ⟨rfl, ⟨nd, rfl⟩⟩; refine ⟨_, rfl, ?_⟩))
    go_ret
    exact ⟨by first | rfl | (simp [errW_none, errW_some] <;> rfl) | (simp only [← hji6]; first | rfl | (simp [errW_none, errW_some] <;> rfl)) | (simp [*, errW_none, errW_some] <;> rfl), by repeat (first | (with_reducible first | exact HB.out | apply below_alloc | apply pw_below_drewN | apply below_drew1) | exact HB.out)⟩
  · replace c8 := Bool.eq_false_iff.mpr c8
    subst c8
    have H1 : (some ji6) = some r := by rw [if_neg (show ¬ (false = true) by decide)] at H; exact H
    clear H
    have H := H1
    clear H1
    obtain rfl := Option.some.inj H
    go_enter Try.func52, Try.ntmps52
    go_wp2_with (first | ((with_reducible refine gate_callee (f := 64) rfl ?_); refine goesL_ (some 17) rfl rfl Try.func64 (by kernel_rfl) rfl #[.slice A0 l0.length c0, .int .i64 a3] rfl (by (try simp only [List.map_toArray, List.map_cons, List.map_nil]); first | done | rfl | (simp only [List.length_drop, List.length_take]; rfl)) ?_; (with_reducible refine (spec_l10Has.calls k _ _ l0 a3 false _ ?side1 ?side2 A7.out).mono ?_); (case side1 => repeat (first | exact HR0.out | (with_reducible refine Kd.C_alloc ?_ _) | (with_reducible refine Kd.C_drewN ?_ _) | (with_reducible refine Kd.C_drew ?_))); (case side2 => exact HC0.out); rintro e w' ⟨rfl, ⟨nd, rfl⟩⟩; refine ⟨_, rfl, ?_⟩))
    go_ret
    exact ⟨by first | rfl | (simp [errW_none, errW_some] <;> rfl) | (simp only [← hji6]; first | rfl | (simp [errW_none, errW_some] <;> rfl)) | (simp [*, errW_none, errW_some] <;> rfl), by repeat (first | (with_reducible first | exact HB.out | apply below_alloc | apply pw_below_drewN | apply below_drew1) | exact HB.out)⟩

/-! ### spec_PenaltyAt: function 24 -/
mutual
def spec_PenaltyAt.j0 : Nat → List Int → Int → Int → Int → Bool → Option (Int)
  | 0, _, _, _, _, _ => none
  | k + 1, x0, x1, x2, x3, x28 => if x28 = true then (some (-1)) else (spec_PenaltyAt.l0 k x0 x1 x2 x3 0 0)
def spec_PenaltyAt.l0 : Nat → List Int → Int → Int → Int → Int → Int → Option (Int)
  | 0, _, _, _, _, _, _ => none
  | k + 1, x0, x1, x2, x3, x9, x10 => if x10 ≤ x3 then ((spec_l18Penalty.f k x0 x1 x2 x10 x9).bind fun t233 => (spec_PenaltyAt.l0 k x0 x1 x2 x3 t233 (wrap64 (x10 + 1)))) else (some x9)
end
def spec_PenaltyAt.f (k : Nat) (l0 : List Int) (a1 : Int) (a2 : Int) (a3 : Int) : Option (Int) := (spec_HellosValid.f k l0).bind fun t229 => (if t229 = true then ((spec_l1In.f a1 1 100).bind fun t230 => (if t230 = true then ((spec_l1In.f a2 1 20).bind fun t231 => (if t231 = true then ((spec_l1In.f a3 0 2000).bind fun t232 => (spec_PenaltyAt.j0 k l0 a1 a2 a3 (!t232))) else (spec_PenaltyAt.j0 k l0 a1 a2 a3 true))) else (spec_PenaltyAt.j0 k l0 a1 a2 a3 true))) else (spec_PenaltyAt.j0 k l0 a1 a2 a3 true))
theorem spec_PenaltyAt.mono_l : ∀ k, (∀ y0 y1 y2 y3 y4, LeO (spec_PenaltyAt.j0 k y0 y1 y2 y3 y4) (spec_PenaltyAt.j0 (k + 1) y0 y1 y2 y3 y4)) ∧ (∀ y0 y1 y2 y3 y4 y5, LeO (spec_PenaltyAt.l0 k y0 y1 y2 y3 y4 y5) (spec_PenaltyAt.l0 (k + 1) y0 y1 y2 y3 y4 y5))
  | 0 => ⟨fun _ _ _ _ _ r h => by simp [spec_PenaltyAt.j0] at h, fun _ _ _ _ _ _ r h => by simp [spec_PenaltyAt.l0] at h⟩
  | k + 1 => by
    obtain ⟨ih0, ih1⟩ := spec_PenaltyAt.mono_l k
    refine ⟨?_, ?_⟩
    · intro y0 y1 y2 y3 y4
      unfold spec_PenaltyAt.j0
      repeat' first
      | (with_reducible exact ih0 _ _ _ _ _)
      | (with_reducible exact ih1 _ _ _ _ _ _)
      | (with_reducible exact spec_HellosValid.mono _ _)
      | (with_reducible exact spec_l18Penalty.mono _ _ _ _ _ _)
      | (with_reducible exact LeO.refl _)
      | (with_reducible exact LeO.none _)
      | (with_reducible refine LeO.ite ?_ ?_)
      | (with_reducible refine LeO.bind ?_ (fun _ => ?_))
      | exact ih0 _ _ _ _ _
      | exact ih1 _ _ _ _ _ _
      | exact spec_HellosValid.mono _ _
      | exact spec_l18Penalty.mono _ _ _ _ _ _
      | exact LeO.none _
      | refine LeO.ite ?_ ?_
      | refine LeO.bind ?_ (fun _ => ?_)
    · intro y0 y1 y2 y3 y4 y5
      unfold spec_PenaltyAt.l0
      repeat' first
      | (with_reducible exact ih0 _ _ _ _ _)
      | (with_reducible exact ih1 _ _ _ _ _ _)
      | (with_reducible exact spec_HellosValid.mono _ _)
      | (with_reducible exact spec_l18Penalty.mono _ _ _ _ _ _)
      | (with_reducible exact LeO.refl _)
      | (with_reducible exact LeO.none _)
      | (with_reducible refine LeO.ite ?_ ?_)
      | (with_reducible refine LeO.bind ?_ (fun _ => ?_))
      | exact ih0 _ _ _ _ _
      | exact ih1 _ _ _ _ _ _
      | exact spec_HellosValid.mono _ _
      | exact spec_l18Penalty.mono _ _ _ _ _ _
      | exact LeO.none _
      | refine LeO.ite ?_ ?_
      | refine LeO.bind ?_ (fun _ => ?_)
theorem spec_PenaltyAt.mono : ∀ a0 a1 a2 a3 k, LeO (spec_PenaltyAt.f k a0 a1 a2 a3) (spec_PenaltyAt.f (k + 1) a0 a1 a2 a3) := by
  intro a0 a1 a2 a3 k
  obtain ⟨ih0, ih1⟩ := spec_PenaltyAt.mono_l k
  unfold spec_PenaltyAt.f
  repeat' first
      | (with_reducible exact ih0 _ _ _ _ _)
      | (with_reducible exact ih1 _ _ _ _ _ _)
      | (with_reducible exact spec_HellosValid.mono _ _)
      | (with_reducible exact spec_l18Penalty.mono _ _ _ _ _ _)
      | (with_reducible exact LeO.refl _)
      | (with_reducible exact LeO.none _)
      | (with_reducible refine LeO.ite ?_ ?_)
      | (with_reducible refine LeO.bind ?_ (fun _ => ?_))
      | exact ih0 _ _ _ _ _
      | exact ih1 _ _ _ _ _ _
      | exact spec_HellosValid.mono _ _
      | exact spec_l18Penalty.mono _ _ _ _ _ _
      | exact LeO.none _
      | refine LeO.ite ?_ ?_
      | refine LeO.bind ?_ (fun _ => ?_)
set_option maxHeartbeats 8000000 in
set_option maxRecDepth 100000 in
theorem spec_PenaltyAt.calls (k : Nat) (A0 : Option Addr) (c0 : Nat) (l0 : List Int) (a1 : Int) (a2 : Int) (a3 : Int) (r : Int) (w : World) (hr0 : Kd.C (Kd.int .i64) w A0 l0.length l0) (hc0 : l0.length ≤ c0) (h : spec_PenaltyAt.f k l0 a1 a2 a3 = some r) :
    Calls Try.prog 24 #[.slice A0 l0.length c0, .int .i64 a1, .int .i64 a2, .int .i64 a3] w fun e w' => e = .returned (.int .i64 r) ∧ Below w.heap.size w w' := by
  have HR0 := Aside0.mk hr0
  have HC0 := Aside0.mk hc0
  clear hr0 hc0
  have HB := Aside0.mk (Below.refl w.heap.size w)
  have H : ((spec_HellosValid.f k l0).bind fun t229 => (if t229 = true then ((spec_l1In.f a1 1 100).bind fun t230 => (if t230 = true then ((spec_l1In.f a2 1 20).bind fun t231 => (if t231 = true then ((spec_l1In.f a3 0 2000).bind fun t232 => (spec_PenaltyAt.j0 k l0 a1 a2 a3 (!t232))) else (spec_PenaltyAt.j0 k l0 a1 a2 a3 true))) else (spec_PenaltyAt.j0 k l0 a1 a2 a3 true))) else (spec_PenaltyAt.j0 k l0 a1 a2 a3 true))) = some r := h
  clear h
  have HC5 := Aside0.mk H
  clear H
  go_enter Try.func24, Try.ntmps24
  go_upto_region 1 with (fail)
  go_cut [28] (fun v28 wc => ∃ (kq : Nat) (x28_4 : Bool), v28 = .bool x28_4 ∧ Aside0 (spec_PenaltyAt.j0 kq l0 a1 a2 a3 x28_4 = some r) ∧ Aside0 (kq ≤ k) ∧ Aside0 (Below w.heap.size w wc))
  case first =>
    have H := HC5.out
    clear HC5
    replace H := Option.bind_eq_some_iff.mp H
    obtain ⟨t229, A60, H⟩ := H
    replace H : (if t229 = true then ((spec_l1In.f a1 1 100).bind fun t230 => (if t230 = true then ((spec_l1In.f a2 1 20).bind fun t231 => (if t231 = true then ((spec_l1In.f a3 0 2000).bind fun t232 => (spec_PenaltyAt.j0 k l0 a1 a2 a3 (!t232))) else (spec_PenaltyAt.j0 k l0 a1 a2 a3 true))) else (spec_PenaltyAt.j0 k l0 a1 a2 a3 true))) else (spec_PenaltyAt.j0 k l0 a1 a2 a3 true)) = some r := H
    have A6 := Aside0.mk A60
    clear A60
    by_cases c7 : t229 = true
    · subst c7
      have H1 : ((spec_l1In.f a1 1 100).bind fun t230 => (if t230 = true then ((spec_l1In.f a2 1 20).bind fun t231 => (if t231 = true then ((spec_l1In.f a3 0 2000).bind fun t232 => (spec_PenaltyAt.j0 k l0 a1 a2 a3 (!t232))) else (spec_PenaltyAt.j0 k l0 a1 a2 a3 true))) else (spec_PenaltyAt.j0 k l0 a1 a2 a3 true))) = some r := by rw [if_pos rfl] at H; exact H
      clear H
      have H := H1
      clear H1
      replace H := Option.bind_eq_some_iff.mp H
      obtain ⟨t230, A80, H⟩ := H
      replace H : (if t230 = true then ((spec_l1In.f a2 1 20).bind fun t231 => (if t231 = true then ((spec_l1In.f a3 0 2000).bind fun t232 => (spec_PenaltyAt.j0 k l0 a1 a2 a3 (!t232))) else (spec_PenaltyAt.j0 k l0 a1 a2 a3 true))) else (spec_PenaltyAt.j0 k l0 a1 a2 a3 true)) = some r := H
      have A8 := Aside0.mk A80
      clear A80
      by_cases c9 : t230 = true
      · subst c9
        have H1 : ((spec_l1In.f a2 1 20).bind fun t231 => (if t231 = true then ((spec_l1In.f a3 0 2000).bind fun t232 => (spec_PenaltyAt.j0 k l0 a1 a2 a3 (!t232))) else (spec_PenaltyAt.j0 k l0 a1 a2 a3 true))) = some r := by rw [if_pos rfl] at H; exact H
        clear H
        have H := H1
        clear H1
        replace H := Option.bind_eq_some_iff.mp H
        obtain ⟨t231, A100, H⟩ := H
        replace H : (if t231 = true then ((spec_l1In.f a3 0 2000).bind fun t232 => (spec_PenaltyAt.j0 k l0 a1 a2 a3 (!t232))) else (spec_PenaltyAt.j0 k l0 a1 a2 a3 true)) = some r := H
        have A10 := Aside0.mk A100
        clear A100
        by_cases c11 : t231 = true
        · subst c11
          have H1 : ((spec_l1In.f a3 0 2000).bind fun t232 => (spec_PenaltyAt.j0 k l0 a1 a2 a3 (!t232))) = some r := by rw [if_pos rfl] at H; exact H
          clear H
          have H := H1
          clear H1
          replace H := Option.bind_eq_some_iff.mp H
          obtain ⟨t232, A120, H⟩ := H
          replace H : (spec_PenaltyAt.j0 k l0 a1 a2 a3 (!t232)) = some r := H
          have A12 := Aside0.mk A120
          clear A120
          have H' := Aside0.mk H
          clear H
          go_wp2_with (first | ((with_reducible refine gate_callee (f := 23) rfl ?_); refine goesL_ (some 12) rfl rfl Try.func23 (by kernel_rfl) rfl #[.slice A0 l0.length c0] rfl (by (try simp only [List.map_toArray, List.map_cons, List.map_nil]); first | done | rfl | (simp only [List.length_drop, List.length_take]; rfl)) ?_; (with_reducible refine (spec_HellosValid.calls k _ _ l0 true _ ?side1 ?side2 A6.out).mono ?_); (case side1 => repeat (first | exact (Kd.C_below HR0.out HB.out) | (with_reducible refine Kd.C_alloc ?_ _) | (with_reducible refine Kd.C_drewN ?_ _) | (with_reducible refine Kd.C_drew ?_))); (case side2 => exact HC0.out); rintro e w' ⟨rfl, ⟨nd, rfl⟩⟩; refine ⟨_, rfl, ?_⟩) | (go_at_call 51; (with_reducible refine (spec_l1In.calls a1 1 100 true _ A8.out).mono ?_); rintro e w' ⟨rfl, ⟨nd, rfl⟩⟩) | (go_at_call 51; (with_reducible refine (spec_l1In.calls a2 1 20 true _ A10.out).mono ?_); rintro e w' ⟨rfl, ⟨nd, rfl⟩⟩) | (go_at_call 51; (with_reducible refine (spec_l1In.calls a3 0 2000 t232 _ A12.out).mono ?_); rintro e w' ⟨rfl, ⟨nd, rfl⟩⟩))
          go_meet
          case rel => exact ⟨_, (!t232), (by first | rfl | (simp; done) | (simp [*]; done)), H', ⟨by first | omega | exact Nat.le_refl _⟩, ⟨by repeat (first | (with_reducible first | exact HB.out | apply below_alloc | apply pw_below_drewN | apply below_drew1) | exact HB.out)⟩⟩
        · replace c11 := Bool.eq_false_iff.mpr c11
          subst c11
          have H1 : (spec_PenaltyAt.j0 k l0 a1 a2 a3 true) = some r := by rw [if_neg (show ¬ (false = true) by decide)] at H; exact H
          clear H
          have H := H1
          clear H1
          have H' := Aside0.mk H
          clear H
          go_wp2_with (first | ((with_reducible refine gate_callee (f := 23) rfl ?_); refine goesL_ (some 12) rfl rfl Try.func23 (by kernel_rfl) rfl #[.slice A0 l0.length c0] rfl (by (try simp only [List.map_toArray, List.map_cons, List.map_nil]); first | done | rfl | (simp only [List.length_drop, List.length_take]; rfl)) ?_; (with_reducible refine (spec_HellosValid.calls k _ _ l0 true _ ?side1 ?side2 A6.out).mono ?_); (case side1 => repeat (first | exact (Kd.C_below HR0.out HB.out) | (with_reducible refine Kd.C_alloc ?_ _) | (with_reducible refine Kd.C_drewN ?_ _) | (with_reducible refine Kd.C_drew ?_))); (case side2 => exact HC0.out); rintro e w' ⟨rfl, ⟨nd, rfl⟩⟩; refine ⟨_, rfl, ?_⟩) | (go_at_call 51; (with_reducible refine (spec_l1In.calls a1 1 100 true _ A8.out).mono ?_); rintro e w' ⟨rfl, ⟨nd, rfl⟩⟩) | (go_at_call 51; (with_reducible refine (spec_l1In.calls a2 1 20 false _ A10.out).mono ?_); rintro e w' ⟨rfl, ⟨nd, rfl⟩⟩))
          go_meet
          case rel => exact ⟨_, (true), (by first | rfl | (simp; done) | (simp [*]; done)), H', ⟨by first | omega | exact Nat.le_refl _⟩, ⟨by repeat (first | (with_reducible first | exact HB.out | apply below_alloc | apply pw_below_drewN | apply below_drew1) | exact HB.out)⟩⟩
      · replace c9 := Bool.eq_false_iff.mpr c9
        subst c9
        have H1 : (spec_PenaltyAt.j0 k l0 a1 a2 a3 true) = some r := by rw [if_neg (show ¬ (false = true) by decide)] at H; exact H
        clear H
        have H := H1
        clear H1
        have H' := Aside0.mk H
        clear H
        go_wp2_with (first | ((with_reducible refine gate_callee (f := 23) rfl ?_); refine goesL_ (some 12) rfl rfl Try.func23 (by kernel_rfl) rfl #[.slice A0 l0.length c0] rfl (by (try simp only [List.map_toArray, List.map_cons, List.map_nil]); first | done | rfl | (simp only [List.length_drop, List.length_take]; rfl)) ?_; (with_reducible refine (spec_HellosValid.calls k _ _ l0 true _ ?side1 ?side2 A6.out).mono ?_); (case side1 => repeat (first | exact (Kd.C_below HR0.out HB.out) | (with_reducible refine Kd.C_alloc ?_ _) | (with_reducible refine Kd.C_drewN ?_ _) | (with_reducible refine Kd.C_drew ?_))); (case side2 => exact HC0.out); rintro e w' ⟨rfl, ⟨nd, rfl⟩⟩; refine ⟨_, rfl, ?_⟩) | (go_at_call 51; (with_reducible refine (spec_l1In.calls a1 1 100 false _ A8.out).mono ?_); rintro e w' ⟨rfl, ⟨nd, rfl⟩⟩))
        go_meet
        case rel => exact ⟨_, (true), (by first | rfl | (simp; done) | (simp [*]; done)), H', ⟨by first | omega | exact Nat.le_refl _⟩, ⟨by repeat (first | (with_reducible first | exact HB.out | apply below_alloc | apply pw_below_drewN | apply below_drew1) | exact HB.out)⟩⟩
    · replace c7 := Bool.eq_false_iff.mpr c7
      subst c7
      have H1 : (spec_PenaltyAt.j0 k l0 a1 a2 a3 true) = some r := by rw [if_neg (show ¬ (false = true) by decide)] at H; exact H
      clear H
      have H := H1
      clear H1
      have H' := Aside0.mk H
      clear H
      go_wp2_with (first | ((with_reducible refine gate_callee (f := 23) rfl ?_); refine goesL_ (some 12) rfl rfl Try.func23 (by kernel_rfl) rfl #[.slice A0 l0.length c0] rfl (by (try simp only [List.map_toArray, List.map_cons, List.map_nil]); first | done | rfl | (simp only [List.length_drop, List.length_take]; rfl)) ?_; (with_reducible refine (spec_HellosValid.calls k _ _ l0 false _ ?side1 ?side2 A6.out).mono ?_); (case side1 => repeat (first | exact (Kd.C_below HR0.out HB.out) | (with_reducible refine Kd.C_alloc ?_ _) | (with_reducible refine Kd.C_drewN ?_ _) | (with_reducible refine Kd.C_drew ?_))); (case side2 => exact HC0.out); rintro e w' ⟨rfl, ⟨nd, rfl⟩⟩; refine ⟨_, rfl, ?_⟩))
      go_meet
      case rel => exact ⟨_, (true), (by first | rfl | (simp; done) | (simp [*]; done)), H', ⟨by first | omega | exact Nat.le_refl _⟩, ⟨by repeat (first | (with_reducible first | exact HB.out | apply below_alloc | apply pw_below_drewN | apply below_drew1) | exact HB.out)⟩⟩
  case rest =>
    clear HC5
    try clear c1
    try clear c2
    try clear p2
    try clear c7
    try clear c9
    try clear c11
    obtain ⟨kq, x28_4, rfl, HA, HJ4, HB⟩ := hcut
    cases kq with
    | zero => exact absurd HA.out (by simp [spec_PenaltyAt.j0])
    | succ kj4 =>
      have H := HA.out
      clear HA
      simp only [spec_PenaltyAt.j0] at H
      by_cases c13 : x28_4 = true
      · subst c13
        have H1 : (some (-1)) = some r := by rw [if_pos rfl] at H; exact H
        clear H
        have H := H1
        clear H1
        obtain rfl := Option.some.inj H
        go_wp2
        go_ret
        exact ⟨by first | rfl | (simp [errW_none, errW_some] <;> rfl) | (simp [*, errW_none, errW_some] <;> rfl), by repeat (first | (with_reducible first | exact HB.out | apply below_alloc | apply pw_below_drewN | apply below_drew1) | exact HB.out)⟩
      · replace c13 := Bool.eq_false_iff.mpr c13
        subst c13
        have H1 : (spec_PenaltyAt.l0 kj4 l0 a1 a2 a3 0 0) = some r := by rw [if_neg (show ¬ (false = true) by decide)] at H; exact H
        clear H
        have H := H1
        clear H1
        have H' := Aside0.mk H
        clear H
        go_wp2
        go_loopg [9, 10] kj4 (fun kq v9 v10 w' => ∃ (x9_2 : Int) (x10_2 : Int), v9 = .int .i64 x9_2 ∧ v10 = .int .i64 x10_2 ∧ Aside0 (spec_PenaltyAt.l0 kq l0 a1 a2 a3 x9_2 x10_2 = some r) ∧ Aside0 (kq ≤ kj4) ∧ Aside0 (Below w.heap.size w w'))
        case atStart => exact ⟨(0), (0), (by first | rfl | (simp; done) | (simp [*]; done)), (by first | rfl | (simp; done) | (simp [*]; done)), H', ⟨Nat.le_refl _⟩, ⟨by repeat (first | (with_reducible first | exact HB.out | apply below_alloc | apply pw_below_drewN | apply below_drew1) | exact HB.out)⟩⟩
        case round =>
          clear H'
          try clear c1
          try clear c2
          try clear p2
          try clear c7
          try clear c9
          try clear c11
          try clear c13
          try clear p2
          obtain ⟨x9_2, x10_2, rfl, rfl, HA, HK2, HB⟩ := hrel
          cases gk with
          | zero => exact absurd HA.out (by simp [spec_PenaltyAt.l0])
          | succ k2 =>
            have H := HA.out
            clear HA
            simp only [spec_PenaltyAt.l0] at H
            by_cases c14 : x10_2 ≤ a3
            · rw [if_pos c14] at H
              have c14b0 : decide (x10_2 ≤ a3) = true := decide_eq_true c14
              clear c14
              replace H := Option.bind_eq_some_iff.mp H
              obtain ⟨t233, A150, H⟩ := H
              replace H : (spec_PenaltyAt.l0 k2 l0 a1 a2 a3 t233 (wrap64 (x10_2 + 1))) = some r := H
              have A15 := Aside0.mk A150
              clear A150
              have H' := Aside0.mk H
              clear H
              go_wp2_with (first | ((with_reducible refine gate_callee (f := 52) rfl ?_); refine goesL_ (some 39) rfl rfl Try.func52 (by kernel_rfl) rfl #[.slice A0 l0.length c0, .int .i64 a1, .int .i64 a2, .int .i64 x10_2, .int .i64 x9_2] rfl (by (try simp only [List.map_toArray, List.map_cons, List.map_nil]); first | done | rfl | (simp only [List.length_drop, List.length_take]; rfl)) ?_; (with_reducible refine (spec_l18Penalty.calls k2 _ _ l0 a1 a2 x10_2 x9_2 t233 _ ?side1 ?side2 A15.out).mono ?_); (case side1 => repeat (first | exact (Kd.C_below HR0.out HB.out) | (with_reducible refine Kd.C_alloc ?_ _) | (with_reducible refine Kd.C_drewN ?_ _) | (with_reducible refine Kd.C_drew ?_))); (case side2 => exact HC0.out); rintro e w16 ⟨rfl, hb⟩; refine ⟨_, rfl, ?_⟩; have n0_ := Aside0.mk (below_step (by repeat (first | (with_reducible first | exact HB.out | apply below_alloc | apply pw_below_drewN | apply below_drew1) | exact HB.out)) hb); clear HB; have HB := n0_; clear n0_; (try clear hb); (try clear hb2); (try clear hk); (try clear hi)))
              go_roundg k2
              case measure => have := HJ4.out; have := HK2.out; omega
              case rel => exact ⟨(t233), (wrap64 (x10_2 + 1)), (by first | rfl | (simp; done) | (simp [*]; done)), (by first | rfl | (simp; done) | (simp [*]; done)), H', ⟨by have := HJ4.out; have := HK2.out; omega⟩, ⟨by repeat (first | (with_reducible first | exact HB.out | apply below_alloc | apply pw_below_drewN | apply below_drew1) | exact HB.out)⟩⟩
            · rw [if_neg c14] at H
              have c14b0 : decide (x10_2 ≤ a3) = false := decide_eq_false c14
              clear c14
              obtain rfl := Option.some.inj H
              go_wp2
              go_ret
              exact ⟨by first | rfl | (simp [errW_none, errW_some] <;> rfl) | (simp [*, errW_none, errW_some] <;> rfl), by repeat (first | (with_reducible first | exact HB.out | apply below_alloc | apply pw_below_drewN | apply below_drew1) | exact HB.out)⟩

/-! ### slices_Index_int_int: function 67 -/
def slices_Index_int_int.l0 : Nat → List Int → Int → Int → Int → Option (Int)
  | 0, _, _, _, _ => none
  | k + 1, x0, x1, x7, x8 => if x8 < x7 then (if 0 ≤ x8 then (if x8 < (x0.length : Int) then (if x1 = (rd x0 x8) then (some x8) else (slices_Index_int_int.l0 k x0 x1 x7 (wrap64 (x8 + 1)))) else (none)) else (none)) else (some (-1))
def slices_Index_int_int.f (k : Nat) (l0 : List Int) (a1 : Int) : Option (Int) := slices_Index_int_int.l0 k l0 a1 (l0.length : Int) 0
theorem slices_Index_int_int.mono_l : ∀ k, (∀ y0 y1 y2 y3, LeO (slices_Index_int_int.l0 k y0 y1 y2 y3) (slices_Index_int_int.l0 (k + 1) y0 y1 y2 y3))
  | 0 => fun _ _ _ _ r h => by simp [slices_Index_int_int.l0] at h
  | k + 1 => by
    have ih0 := slices_Index_int_int.mono_l k
    · intro y0 y1 y2 y3
      unfold slices_Index_int_int.l0
      repeat' first
      | (with_reducible exact ih0 _ _ _ _)
      | (with_reducible exact LeO.refl _)
      | (with_reducible exact LeO.none _)
      | (with_reducible refine LeO.ite ?_ ?_)
      | (with_reducible refine LeO.bind ?_ (fun _ => ?_))
      | exact ih0 _ _ _ _
      | exact LeO.none _
      | refine LeO.ite ?_ ?_
      | refine LeO.bind ?_ (fun _ => ?_)
theorem slices_Index_int_int.mono : ∀ a0 a1 k, LeO (slices_Index_int_int.f k a0 a1) (slices_Index_int_int.f (k + 1) a0 a1) := by
  intro a0 a1 k
  have ih0 := slices_Index_int_int.mono_l k
  unfold slices_Index_int_int.f
  repeat' first
      | (with_reducible exact ih0 _ _ _ _)
      | (with_reducible exact LeO.refl _)
      | (with_reducible exact LeO.none _)
      | (with_reducible refine LeO.ite ?_ ?_)
      | (with_reducible refine LeO.bind ?_ (fun _ => ?_))
      | exact ih0 _ _ _ _
      | exact LeO.none _
      | refine LeO.ite ?_ ?_
      | refine LeO.bind ?_ (fun _ => ?_)
set_option maxHeartbeats 8000000 in
set_option maxRecDepth 100000 in
theorem slices_Index_int_int.calls (k : Nat) (A0 : Option Addr) (c0 : Nat) (l0 : List Int) (a1 : Int) (r : Int) (w : World) (hr0 : Kd.C (Kd.int .i64) w A0 l0.length l0) (hc0 : l0.length ≤ c0) (h : slices_Index_int_int.f k l0 a1 = some r) :
    Calls Try.prog 67 #[.slice A0 l0.length c0, .int .i64 a1] w fun e w' => e = .returned (.int .i64 r) ∧ Drawn0 w w' := by
  have HR0 := Aside0.mk hr0
  have HC0 := Aside0.mk hc0
  clear hr0 hc0
  have H : (slices_Index_int_int.l0 k l0 a1 (l0.length : Int) 0) = some r := h
  clear h
  have H' := Aside0.mk H
  clear H
  go_enter Try.func67, Try.ntmps67
  go_wp2
  go_loopg [8] k (fun kq v8 w' => ∃ (x8_1 : Int), v8 = .int .i64 x8_1 ∧ Aside0 (slices_Index_int_int.l0 kq l0 a1 (l0.length : Int) x8_1 = some r) ∧ Aside0 (kq ≤ k) ∧ Drawn0 w w')
  case atStart => exact ⟨(0), (by first | rfl | (simp; done) | (simp [*]; done)), H', ⟨Nat.le_refl _⟩, by repeat (first | exact Drawn0.refl _ | apply Drawn0.step)⟩
  case round =>
    clear H'
    try clear p2
    obtain ⟨x8_1, rfl, HA, HK1, ⟨m1, rfl⟩⟩ := hrel
    cases gk with
    | zero => exact absurd HA.out (by simp [slices_Index_int_int.l0])
    | succ k1 =>
      have H := HA.out
      clear HA
      simp only [slices_Index_int_int.l0] at H
      by_cases c3 : x8_1 < (l0.length : Int)
      · rw [if_pos c3] at H
        have c3b0 : decide (x8_1 < (l0.length : Int)) = true := decide_eq_true c3
        clear c3
        by_cases c4 : 0 ≤ x8_1
        · rw [if_pos c4] at H
          have c4b0 : decide (0 ≤ x8_1) = true := decide_eq_true c4
          clear c4
          by_cases c5 : x8_1 < (l0.length : Int)
          · rw [if_pos c5] at H
            have c5b0 : decide (x8_1 < (l0.length : Int)) = true := decide_eq_true c5
            clear c5
            by_cases c6 : a1 = (rd l0 x8_1)
            · rw [if_pos c6] at H
              have c6b0 : (a1 == (rd l0 x8_1)) = true := beq_iff_eq.mpr c6
              have c6b1 : (a1 != (rd l0 x8_1)) = false := bne_eq_false_iff_eq.mpr c6
              clear c6
              obtain rfl := Option.some.inj H
              have p234 : 0 ≤ (x8_1 : Int) := of_decide_eq_true (by first | (with_reducible assumption) | assumption)
              have q234 : x8_1 < (l0.length : Int) := of_decide_eq_true (by first | (with_reducible assumption) | assumption)
              obtain ⟨ad234, e234, hx234_0⟩ := Kd.at_int HR0.out x8_1 p234 q234
              cases e234
              replace p234 := eq_true p234
              replace q234 := eq_true q234
              go_wp2
              go_ret
              exact ⟨by first | rfl | (simp; done) | (simp [*]; done), by repeat (first | exact Drawn0.refl _ | apply Drawn0.step)⟩
            · rw [if_neg c6] at H
              have c6b0 : (a1 == (rd l0 x8_1)) = false := beq_eq_false_iff_ne.mpr c6
              have c6b1 : (a1 != (rd l0 x8_1)) = true := bne_iff_ne.mpr c6
              have H' := Aside0.mk H
              clear H
              have p234 : 0 ≤ (x8_1 : Int) := of_decide_eq_true (by first | (with_reducible assumption) | assumption)
              have q234 : x8_1 < (l0.length : Int) := of_decide_eq_true (by first | (with_reducible assumption) | assumption)
              obtain ⟨ad234, e234, hx234_0⟩ := Kd.at_int HR0.out x8_1 p234 q234
              cases e234
              replace p234 := eq_true p234
              replace q234 := eq_true q234
              go_wp2
              go_roundg k1
              case measure => have := HK1.out; omega
              case rel => exact ⟨(wrap64 (x8_1 + 1)), (by first | rfl | (simp; done) | (simp [*]; done)), H', ⟨by have := HK1.out; omega⟩, by repeat (first | exact Drawn0.refl _ | apply Drawn0.step)⟩
          · rw [if_neg c5] at H
            exact absurd H (by simp)
        · rw [if_neg c4] at H
          exact absurd H (by simp)
      · rw [if_neg c3] at H
        have c3b0 : decide (x8_1 < (l0.length : Int)) = false := decide_eq_false c3
        clear c3
        obtain rfl := Option.some.inj H
        go_wp2
        go_ret
        exact ⟨by first | rfl | (simp; done) | (simp [*]; done), by repeat (first | exact Drawn0.refl _ | apply Drawn0.step)⟩

/-! ### slices_Contains_int_int: function 65 -/
def slices_Contains_int_int.f (k : Nat) (l0 : List Int) (a1 : Int) : Option (Bool) := (slices_Index_int_int.f k l0 a1).bind fun t235 => (some (decide (t235 ≥ 0)))
theorem slices_Contains_int_int.mono : ∀ a0 a1 k, LeO (slices_Contains_int_int.f k a0 a1) (slices_Contains_int_int.f (k + 1) a0 a1) := by
  intro a0 a1 k
  unfold slices_Contains_int_int.f
  repeat' first
      | (with_reducible exact slices_Index_int_int.mono _ _ _)
      | (with_reducible exact LeO.refl _)
      | (with_reducible exact LeO.none _)
      | (with_reducible refine LeO.ite ?_ ?_)
      | (with_reducible refine LeO.bind ?_ (fun _ => ?_))
      | exact slices_Index_int_int.mono _ _ _
      | exact LeO.none _
      | refine LeO.ite ?_ ?_
      | refine LeO.bind ?_ (fun _ => ?_)
set_option maxHeartbeats 8000000 in
set_option maxRecDepth 100000 in
theorem slices_Contains_int_int.calls (k : Nat) (A0 : Option Addr) (c0 : Nat) (l0 : List Int) (a1 : Int) (r : Bool) (w : World) (hr0 : Kd.C (Kd.int .i64) w A0 l0.length l0) (hc0 : l0.length ≤ c0) (h : slices_Contains_int_int.f k l0 a1 = some r) :
    Calls Try.prog 65 #[.slice A0 l0.length c0, .int .i64 a1] w fun e w' => e = .returned (.bool r) ∧ Drawn0 w w' := by
  have HR0 := Aside0.mk hr0
  have HC0 := Aside0.mk hc0
  clear hr0 hc0
  have H : ((slices_Index_int_int.f k l0 a1).bind fun t235 => (some (decide (t235 ≥ 0)))) = some r := h
  clear h
  replace H := Option.bind_eq_some_iff.mp H
  obtain ⟨t235, A30, H⟩ := H
  replace H : (some (decide (t235 ≥ 0))) = some r := H
  have A3 := Aside0.mk A30
  clear A30
  obtain rfl := Option.some.inj H
  go_enter Try.func65, Try.ntmps65
  go_wp2_with (first | ((with_reducible refine gate_callee (f := 67) rfl ?_); refine goesL_ (some 7) rfl rfl Try.func67 (by kernel_rfl) rfl #[.slice A0 l0.length c0, .int .i64 a1] rfl (by (try simp only [List.map_toArray, List.map_cons, List.map_nil]); first | done | rfl | (simp only [List.length_drop, List.length_take]; rfl)) ?_; (with_reducible refine (slices_Index_int_int.calls k _ _ l0 a1 t235 _ ?side1 ?side2 A3.out).mono ?_); (case side1 => repeat (first | exact HR0.out | (with_reducible refine Kd.C_alloc ?_ _) | (with_reducible refine Kd.C_drewN ?_ _) | (with_reducible refine Kd.C_drew ?_))); (case side2 => exact HC0.out); rintro e w' ⟨rfl, ⟨nd, rfl⟩⟩; refine ⟨_, rfl, ?_⟩))
  go_ret
  exact ⟨by first | rfl | (simp; done) | (simp [*]; done), by repeat (first | exact Drawn0.refl _ | apply Drawn0.step)⟩

-- LIB penalties
def hasB (l : List Int) (a : Int) : Bool := l.any fun y => decide (y = a)
theorem index_at (l : List Int) (a : Int) (hl : l.length ≤ 9223372036854775807) (d : Nat) : ∀ (k i : Nat), i + d = l.length → d < k → ∃ r, slices_Index_int_int.l0 k l a l.length (i : Int) = some r ∧ (decide (r ≥ 0) = hasB (l.drop i) a) := by
  induction d with
  | zero =>
    intro k i h2 hk
    obtain ⟨k, rfl⟩ : ∃ m, k = m + 1 := ⟨k - 1, by omega⟩
    refine ⟨-1, ?_, ?_⟩
    · simp only [slices_Index_int_int.l0]
      rw [if_neg (by omega)]
    · rw [show i = l.length by omega, List.drop_length]; rfl
  | succ d ih =>
    intro k i h2 hk
    obtain ⟨k, rfl⟩ : ∃ m, k = m + 1 := ⟨k - 1, by omega⟩
    have e2 : wrap64 ((i : Int) + 1) = ((i + 1 : Nat) : Int) := by unfold wrap64; omega
    have r1 : rd l (i : Int) = l[i] := by simp [rd, List.getD_eq_getElem?_getD, show i < l.length by omega]
    rw [List.drop_eq_getElem_cons (show i < l.length by omega)]
    simp only [slices_Index_int_int.l0]
    rw [if_pos (by omega), if_pos (by omega), if_pos (by omega), r1, e2]
    by_cases c : a = l[i]
    · rw [if_pos c]
      exact ⟨(i : Int), rfl, by rw [hasB, List.any_cons, decide_eq_true c.symm]; simp⟩
    · rw [if_neg c]
      obtain ⟨r, hr, h⟩ := ih k (i + 1) (by omega) (by omega)
      refine ⟨r, hr, h.trans ?_⟩
      rw [hasB, hasB, List.any_cons, decide_eq_false (fun e => c e.symm), Bool.false_or]
theorem contains_eq (l : List Int) (a : Int) (hl : l.length ≤ 9223372036854775807) : slices_Contains_int_int.f (l.length + 1) l a = some (hasB l a) := by
  obtain ⟨r, hr, h⟩ := index_at l a hl l.length (l.length + 1) 0 (by omega) (by omega)
  unfold slices_Contains_int_int.f slices_Index_int_int.f
  have hr' : slices_Index_int_int.l0 (l.length + 1) l a l.length 0 = some r := hr
  rw [hr']
  simp only [Option.bind_some]
  rw [h, List.drop_zero]
theorem within_eq (n a b : Int) : impl_within.f n a b = some (decide (a ≤ n) && decide (n ≤ b)) := by
  unfold impl_within.f
  by_cases h : a ≤ n <;> simp [h]
/-- The penalty behind a step of time; behind n steps; what a watcher of it has seen. -/
def penS (l : List Int) (cost fade now p : Int) : Int := if hasB l now = true then wrap64 (mx 0 (wrap64 (p - fade)) + cost) else mx 0 (wrap64 (p - fade))
def penN (l : List Int) (cost fade : Int) : Nat → Int
  | 0 => 0
  | n + 1 => penS l cost fade n (penN l cost fade n)
def seeN {σ : Type} (step : σ → Int → σ) (s : σ) (l : List Int) (cost fade : Int) : Nat → σ
  | 0 => s
  | n + 1 => step (seeN step s l cost fade n) (penN l cost fade (n + 1))
def penOk (l : List Int) (cost fade t : Int) : Bool := hvB l && (decide (1 ≤ cost) && decide (cost ≤ 100)) && (decide (1 ≤ fade) && decide (fade ≤ 20)) && clockB t
def penEnd {σ : Type} (step : σ → Int → σ) (s : σ) (l : List Int) (cost fade t : Int) : σ := if penOk l cost fade t = true then seeN step s l cost fade (t.toNat + 1) else s
/-- A function value that is told a penalty: it turns the one variable at block b, and nothing else that lay. -/
def TellB {σ : Type} (P : Program) (g : Nat) (lb : Array Value) (enc : σ → Value) (T : Nat) (step : σ → Int → σ) (b : Nat) (w0 w : World) : Prop :=
  ∀ (W : World) (v : σ) (p : Int), Below w0.heap.size w0 W → KeepBut w W b none → W.heap[b]? = some (.cells #[enc v] T (0, 0)) →
    Calls P g (#[.int .i64 p] ++ lb) W fun e w' => e = .returned (.tuple #[]) ∧ Below w0.heap.size w0 w' ∧ KeepBut W w' b none ∧ w'.heap[b]? = some (.cells #[enc (step v p)] T (0, 0))
theorem keepBut_of_below {w w' : World} (h : Below w.heap.size w w') (b : Nat) : KeepBut w w' b none := ⟨h.size, fun i hi _ _ => h.block i hi⟩
theorem keepBut_trans {w w1 w2 : World} {b : Nat} (h : KeepBut w w1 b none) (h' : KeepBut w1 w2 b none) : KeepBut w w2 b none :=
  ⟨Nat.le_trans h.1 h'.1, fun i hi hb hn => (h'.2 i (Nat.lt_of_lt_of_le hi h.1) hb hn).trans (h.2 i hi hb hn)⟩
theorem below_base {w0 w w' : World} (h : Below w0.heap.size w0 w) (h' : Below w.heap.size w w') : Below w0.heap.size w0 w' := h.trans (h'.mono h.size)
theorem heap_kept {w w' : World} (h : Below w.heap.size w w') {b : Nat} {o : Obj} (hb : w.heap[b]? = some o) : w'.heap[b]? = some o := (h.block b (by have := (Array.getElem?_eq_some_iff.1 hb).1; omega)).trans hb
set_option maxHeartbeats 8000000 in
set_option maxRecDepth 100000 in
theorem x_penalties {σ : Type} (enc : σ → Value) (T : Nat) (step : σ → Int → σ) (g : Nat) (lb : Array Value) (eg : ∀ args w, (callFunc g args).run Try.prog w = .ok (.enter g args) w) (b : Nat) (A0 : Option Addr) (c0 : Nat) (l0 : List Int) (cost fade t : Int) (s : σ) (w0 w : World)
    (hv : TellB Try.prog g lb enc T step b w0 w) (hB : Below w0.heap.size w0 w) (hb : w.heap[b]? = some (.cells #[enc s] T (0, 0))) (hr0 : Kd.C (Kd.int .i64) w0 A0 l0.length l0) (hc0 : l0.length ≤ c0) :
    Calls Try.prog 53 #[.slice A0 l0.length c0, .int .i64 cost, .int .i64 fade, .int .i64 t, .func (.func g) #[] lb] w fun e w' => e = .returned (.bool (penOk l0 cost fade t)) ∧ Below w0.heap.size w0 w' ∧ KeepBut w w' b none ∧
      w'.heap[b]? = some (.cells #[enc (penEnd step s l0 cost fade t)] T (0, 0)) := by
  have hlen := Kd.C_max hr0
  have hhv := impl_HellosValid.calls A0 c0 l0 (hvB l0) w (Kd.C_below hr0 hB) hc0 rfl
  have hw1 := fun W => impl_within.calls cost 1 100 _ W (within_eq cost 1 100)
  have hw2 := fun W => impl_within.calls fade 1 20 _ W (within_eq fade 1 20)
  have hck := fun W => impl_isClock.calls t _ W (isClock_eq t)
  have HCO := Aside0.mk (fun (a : Int) (W : World) (hW : Below w0.heap.size w0 W) => slices_Contains_int_int.calls (l0.length + 1) A0 c0 l0 a _ W (Kd.C_below hr0 hW) hc0 (contains_eq l0 a hlen))
  have HOK : penOk l0 cost fade t = (hvB l0 && (decide (1 ≤ cost) && decide (cost ≤ 100)) && (decide (1 ≤ fade) && decide (fade ≤ 20)) && clockB t) := rfl
  have HCL : clockB t = true → 0 ≤ t ∧ t ≤ 2000 := by unfold clockB; simp
  replace HOK := Aside0.mk HOK
  replace HCL := Aside0.mk HCL
  have HV := Aside0.mk hv
  have HB := Aside0.mk hB
  have HH := Aside0.mk hb
  clear hv hB hb hr0 hc0
  generalize hvB l0 = z1 at HOK hhv
  generalize (decide (1 ≤ cost) && decide (cost ≤ 100)) = z2 at HOK hw1
  generalize (decide (1 ≤ fade) && decide (fade ≤ 20)) = z3 at HOK hw2
  generalize clockB t = z4 at HOK hck HCL
  cases z1 with
  | false =>
    have HF : Aside0 (penOk l0 cost fade t = false) := ⟨by rw [HOK.out]; simp⟩
    go_enter Try.func53, Try.ntmps53
    go_wp2_with (go_at_call 22; refine hhv.mono ?_; rintro e w1 ⟨rfl, hb1⟩)
    go_ret
    exact ⟨by rw [HF.out]; rfl, below_base HB.out hb1, keepBut_of_below hb1 b, by rw [penEnd, HF.out, if_neg (by decide)]; exact heap_kept hb1 HH.out⟩
  | true =>
  cases z2 with
  | false =>
    have HF : Aside0 (penOk l0 cost fade t = false) := ⟨by rw [HOK.out]; simp⟩
    go_enter Try.func53, Try.ntmps53
    go_wp2_with (go_at_call 22; refine hhv.mono ?_; rintro e w1 ⟨rfl, hb1⟩)
    refine (hw1 _).mono ?_
    rintro e w2 ⟨rfl, hd2⟩
    go_wp2_with fail
    go_ret
    have hb1 := below_step hb1 hd2.below
    exact ⟨by rw [HF.out]; rfl, below_base HB.out hb1, keepBut_of_below hb1 b, by rw [penEnd, HF.out, if_neg (by decide)]; exact heap_kept hb1 HH.out⟩
  | true =>
  cases z3 with
  | false =>
    have HF : Aside0 (penOk l0 cost fade t = false) := ⟨by rw [HOK.out]; simp⟩
    go_enter Try.func53, Try.ntmps53
    go_wp2_with (go_at_call 22; refine hhv.mono ?_; rintro e w1 ⟨rfl, hb1⟩)
    refine (hw1 _).mono ?_
    rintro e w2 ⟨rfl, hd2⟩
    go_wp2_with fail
    refine (hw2 _).mono ?_
    rintro e w3 ⟨rfl, hd3⟩
    go_wp2_with fail
    go_ret
    have hb1 := below_step (below_step hb1 hd2.below) hd3.below
    exact ⟨by rw [HF.out]; rfl, below_base HB.out hb1, keepBut_of_below hb1 b, by rw [penEnd, HF.out, if_neg (by decide)]; exact heap_kept hb1 HH.out⟩
  | true =>
  cases z4 with
  | false =>
    have HF : Aside0 (penOk l0 cost fade t = false) := ⟨by rw [HOK.out]; simp⟩
    go_enter Try.func53, Try.ntmps53
    go_wp2_with (go_at_call 22; refine hhv.mono ?_; rintro e w1 ⟨rfl, hb1⟩)
    refine (hw1 _).mono ?_
    rintro e w2 ⟨rfl, hd2⟩
    go_wp2_with fail
    refine (hw2 _).mono ?_
    rintro e w3 ⟨rfl, hd3⟩
    go_wp2_with fail
    refine (hck _).mono ?_
    rintro e w4 ⟨rfl, hd4⟩
    go_wp2_with fail
    go_ret
    have hb1 := below_step (below_step (below_step hb1 hd2.below) hd3.below) hd4.below
    exact ⟨by rw [HF.out]; rfl, below_base HB.out hb1, keepBut_of_below hb1 b, by rw [penEnd, HF.out, if_neg (by decide)]; exact heap_kept hb1 HH.out⟩
  | true =>
    have HF : Aside0 (penOk l0 cost fade t = true) := ⟨by rw [HOK.out]; simp⟩
    obtain ⟨ht0, ht1⟩ := HCL.out rfl
    obtain ⟨tn, rfl⟩ := Int.eq_ofNat_of_zero_le ht0
    have ht2 : tn ≤ 2000 := by omega
    clear HCL ht0 ht1
    go_enter Try.func53, Try.ntmps53
    go_wp2_with (go_at_call 22; refine hhv.mono ?_; rintro e w1 ⟨rfl, hb1⟩)
    refine (hw1 _).mono ?_
    rintro e w2 ⟨rfl, hd2⟩
    go_wp2_with fail
    refine (hw2 _).mono ?_
    rintro e w3 ⟨rfl, hd3⟩
    go_wp2_with fail
    refine (hck _).mono ?_
    rintro e w4 ⟨rfl, hd4⟩
    have HB1 := Aside0.mk (below_step (below_step (below_step hb1 hd2.below) hd3.below) hd4.below)
    clear hb1 hd2 hd3 hd4 hhv hw1 hw2 hck
    go_wp2_with fail
    go_loopg [11, 12, 33] (tn + 1) (fun gg s11 _ s33 wr => ∃ (kk : Nat) (p : Int), kk ≤ tn + 1 ∧ tn + 1 - kk ≤ gg ∧ s11 = .int .i64 p ∧ s33 = .int .i64 kk ∧ Aside0 (p = penN l0 cost fade kk) ∧ Aside0 (Below w0.heap.size w0 wr) ∧ Aside0 (KeepBut w wr b none) ∧ Aside0 (wr.heap[b]? = some (.cells #[enc (seeN step s l0 cost fade kk)] T (0, 0))))
    case atStart => exact ⟨0, 0, Nat.zero_le _, by omega, rfl, rfl, ⟨rfl⟩, ⟨below_base HB.out HB1.out⟩, ⟨keepBut_of_below HB1.out b⟩, ⟨heap_kept HB1.out HH.out⟩⟩
    case round =>
      obtain ⟨kk, p, hkk, hg, rfl, rfl, HP, BW, KW, HW⟩ := hrel
      by_cases hlt : kk < tn + 1
      · have hltz : (kk : Int) < (tn : Int) + 1 := by omega
        have hcont := HCO.out (kk : Int) wr BW.out
        have HS : Aside0 (penN l0 cost fade (kk + 1) = if hasB l0 kk = true then wrap64 (mx 0 (wrap64 (p - fade)) + cost) else mx 0 (wrap64 (p - fade))) := ⟨by rw [HP.out]; rfl⟩
        obtain ⟨m, hm⟩ : ∃ m, m = mx 0 (wrap64 (p - fade)) := ⟨_, rfl⟩
        have HS2 : Aside0 (penN l0 cost fade (kk + 1) = if hasB l0 kk = true then wrap64 (m + cost) else m) := ⟨by rw [hm]; exact HS.out⟩
        have hm_ : (if 0 < wrap64 (p - fade) then wrap64 (p - fade) else 0) = m := hm.symm
        clear hm HS
        generalize hasB l0 kk = hz at hcont HS2
        cases hz
        all_goals
          go_wp2_with (go_at_call 65; refine hcont.mono ?_; rintro e w5 ⟨rfl, hd5⟩)
          refine (HV.out w5 (seeN step s l0 cost fade kk) _ (below_base BW.out hd5.below) (keepBut_trans KW.out (keepBut_of_below hd5.below b)) (heap_kept hd5.below HW.out)).mono ?_
          rintro e w6 ⟨rfl, hb6, hk6, hh6⟩
          have HX := Aside0.mk (And.intro hb6 (And.intro (keepBut_trans (keepBut_trans KW.out (keepBut_of_below hd5.below b)) hk6) hh6))
          clear hb6 hk6 hh6
          go_wp2_with fail
          go_roundg (tn + 1 - (kk + 1))
          case measure => omega
          case rel => exact ⟨kk + 1, _, by omega, by omega, rfl, by go_num, ⟨HS2.out.symm⟩, ⟨HX.out.1⟩, ⟨HX.out.2.1⟩, ⟨by rw [seeN, HS2.out]; exact HX.out.2.2⟩⟩
      · have e : kk = tn + 1 := by omega
        subst e
        go_wp2
        go_ret
        exact ⟨by rw [HF.out]; rfl, BW.out, KW.out, by rw [penEnd, HF.out, if_pos rfl]; exact HW.out⟩

/-! ### impl_PenaltyAt: function 25 (by hand) -/
set_option maxHeartbeats 4000000 in
set_option maxRecDepth 100000 in
theorem x_PenaltyAt_1 {b : Nat} {w0 w : World} (hge : w0.heap.size ≤ b) : TellB Try.prog 54 #[.pointer (some ⟨b, 0, none⟩)] (Value.int .i64) 3 (fun _ p => p) b w0 w := by
  intro W v p hB hK hH
  have hc := cell_of_one hH
  have hf := free_of_one hH
  have HX := Aside0.mk (And.intro hB hH)
  clear hB hK hH
  go_enter Try.func54, Try.ntmps54
  go_wp2
  go_end0
  exact ⟨rfl, HX.out.1.setCell hge _, (KeepBut.refl W b none).set_ 0 _, one_setCell HX.out.2⟩
def impl_PenaltyAt.f (l0 : List Int) (a1 : Int) (a2 : Int) (a3 : Int) : Option (Int) :=
  some (penEnd (fun (_ p : Int) => p) (-1) l0 a1 a2 a3)
set_option maxHeartbeats 4000000 in
set_option maxRecDepth 100000 in
theorem impl_PenaltyAt.calls (A0 : Option Addr) (c0 : Nat) (l0 : List Int) (a1 : Int) (a2 : Int) (a3 : Int) (r : Int) (w : World) (hr0 : Kd.C (Kd.int .i64) w A0 l0.length l0) (hc0 : l0.length ≤ c0) (h : impl_PenaltyAt.f l0 a1 a2 a3 = some r) :
    Calls Try.prog 25 #[.slice A0 l0.length c0, .int .i64 a1, .int .i64 a2, .int .i64 a3] w fun e w' => e = .returned (.int .i64 r) ∧ Below w.heap.size w w' := by
  obtain rfl := Option.some.inj h
  have hmf : ∀ (fn : Fn) (first cap : Array Value) (w : World), (Instr.makeFunc fn first cap).run Try.prog w = .ok (.func fn first cap) w := fun _ _ _ _ => rfl
  have hb0 : Below w.heap.size w (w.alloc (.cells #[.int .i64 (-1)] 3)) := (Below.refl _ w).alloc (Nat.le_refl _) _
  have hcall := x_penalties (Value.int .i64) 3 (fun _ p => p) 54 #[.pointer (some ⟨w.heap.size, 0, none⟩)] (enters_of Try.func54 (by kernel_rfl) rfl) w.heap.size A0 c0 l0 a1 a2 a3 (-1) w _ (x_PenaltyAt_1 (Nat.le_refl _)) hb0 (blk_new w _) hr0 hc0
  clear h hr0 hc0 hb0
  generalize penEnd (fun (_ p : Int) => p) (-1) l0 a1 a2 a3 = z at hcall ⊢
  go_enter Try.func25, Try.ntmps25
  go_wp2_with fail
  refine hcall.mono ?_
  rintro e w1 ⟨rfl, hb1, hk1, hh1⟩
  have hc1 := cell_of_one hh1
  clear hk1 hh1
  go_wp2
  go_ret
  exact ⟨rfl, hb1⟩

-- LIB p18pen
theorem l10Has_at (l : List Int) (a : Int) (hl : l.length ≤ 9223372036854775807) (d : Nat) : ∀ (k i : Nat), i + d = l.length → d < k → spec_l10Has.l0 k l a (i : Int) = some (hasB (l.drop i) a) := by
  induction d with
  | zero =>
    intro k i h2 hk
    obtain ⟨k, rfl⟩ : ∃ m, k = m + 1 := ⟨k - 1, by omega⟩
    simp only [spec_l10Has.l0]
    have e : l.drop i = [] := by rw [show i = l.length by omega, List.drop_length]
    rw [if_neg (by omega), e]
    rfl
  | succ d ih =>
    intro k i h2 hk
    obtain ⟨k, rfl⟩ : ∃ m, k = m + 1 := ⟨k - 1, by omega⟩
    simp only [spec_l10Has.l0]
    rw [if_pos (by omega), if_pos (by omega), rd_get l i (by omega), wrap_succ (show i < l.length by omega) (by omega), ih k (i + 1) (by omega) (by omega), List.drop_eq_getElem_cons (show i < l.length by omega)]
    have e2 : hasB (l[i] :: l.drop (i + 1)) a = (decide (l[i] = a) || hasB (l.drop (i + 1)) a) := rfl
    rw [e2]
    by_cases c : l[i] = a
    · rw [if_pos c, decide_eq_true c, Bool.true_or]
    · rw [if_neg c, decide_eq_false c, Bool.false_or]
theorem l10Has_eq (l : List Int) (a : Int) (hl : l.length ≤ 9223372036854775807) (k : Nat) (hk : l.length < k) : spec_l10Has.f k l a = some (hasB l a) := l10Has_at l a hl l.length k 0 (by omega) hk
theorem penStep_eq (l : List Int) (cost fade now p : Int) (hl : l.length ≤ 9223372036854775807) (k : Nat) (hk : l.length < k) : spec_l18Penalty.f k l cost fade now p = some (penS l cost fade now p) := by
  unfold spec_l18Penalty.f penS
  rw [l10Has_eq l now hl k hk, Option.bind_some]
  by_cases c : hasB l now = true
  · rw [if_pos c, if_pos c]
  · rw [if_neg c, if_neg c]
theorem penOk_facts {l : List Int} {cost fade t : Int} (h : penOk l cost fade t = true) : hvB l = true ∧ l.length ≤ 60 ∧ 1 ≤ cost ∧ cost ≤ 100 ∧ 1 ≤ fade ∧ fade ≤ 20 ∧ 0 ≤ t ∧ t ≤ 2000 := by
  unfold penOk at h
  have hl : hvB l = true → l.length ≤ 60 := by unfold hvB; simp; intros; assumption
  unfold clockB at h
  simp at h
  exact ⟨h.1.1.1, hl h.1.1.1, by omega⟩
theorem penN_range {l : List Int} {cost fade : Int} (h1 : 1 ≤ cost) (h2 : cost ≤ 100) (h3 : 1 ≤ fade) (h4 : fade ≤ 20) (n : Nat) (hn : n ≤ 3000) : 0 ≤ penN l cost fade n ∧ penN l cost fade n ≤ 100 * n := by
  induction n with
  | zero => exact ⟨Int.le_refl _, Int.le_refl _⟩
  | succ n ih =>
    have := ih (by omega)
    unfold penN penS mx
    rw [wrap_eq (x := penN l cost fade n - fade) (by omega) (by omega)]
    by_cases c : 0 < penN l cost fade n - fade
    · rw [if_pos c]
      split
      · rw [wrap_eq (by omega) (by omega)]; omega
      · omega
    · rw [if_neg c]
      split
      · rw [wrap_eq (by omega) (by omega)]; omega
      · omega
def penF (l : List Int) (cost fade t : Int) : Int := if penOk l cost fade t = true then penN l cost fade (t.toNat + 1) else -1
theorem ipen_eq (l : List Int) (cost fade t : Int) : impl_PenaltyAt.f l cost fade t = some (penF l cost fade t) := by
  unfold impl_PenaltyAt.f penEnd penF
  rfl
theorem spen_at (l : List Int) (cost fade : Int) (hl : l.length ≤ 60) (t : Nat) (ht : t ≤ 2000) (d : Nat) : ∀ (k i : Nat), i + d = t + 1 → d + 60 < k → spec_PenaltyAt.l0 k l cost fade t (penN l cost fade i) i = some (penN l cost fade (t + 1)) := by
  induction d with
  | zero =>
    intro k i h2 hk
    obtain ⟨k, rfl⟩ : ∃ m, k = m + 1 := ⟨k - 1, by omega⟩
    simp only [spec_PenaltyAt.l0]
    rw [if_neg (by omega), show i = t + 1 by omega]
  | succ d ih =>
    intro k i h2 hk
    obtain ⟨k, rfl⟩ : ∃ m, k = m + 1 := ⟨k - 1, by omega⟩
    simp only [spec_PenaltyAt.l0]
    rw [if_pos (by omega), penStep_eq l cost fade i _ (by omega) k (by omega), Option.bind_some, wrap_succ (show i < t + 1 by omega) (by omega)]
    exact ih k (i + 1) (by omega) (by omega)
theorem spen_eq (l : List Int) (cost fade t : Int) (hl : l.length ≤ 9223372036854775807) (k : Nat) (hk : l.length < k) (hk2 : 2100 < k) : spec_PenaltyAt.f k l cost fade t = some (penF l cost fade t) := by
  unfold spec_PenaltyAt.f
  rw [hellos_eq l hl k hk, Option.bind_some, l1In_is, l1In_is, l1In_is]
  obtain ⟨k, rfl⟩ : ∃ m, k = m + 1 := ⟨k - 1, by omega⟩
  simp only [spec_PenaltyAt.j0, Option.bind_some]
  unfold penF
  cases ho : penOk l cost fade t with
  | true =>
    obtain ⟨h0, h1, h2, h3, h4, h5, h6, h7⟩ := penOk_facts ho
    obtain ⟨n, rfl⟩ := Int.eq_ofNat_of_zero_le h6
    rw [h0, if_pos rfl, if_pos (by simp; omega), if_pos (by simp; omega), if_neg (by simp; omega), if_pos rfl]
    exact spen_at l cost fade h1 n (by omega) (n + 1) k 0 (by omega) (by omega)
  | false =>
    rw [if_neg (show ¬ false = true by decide)]
    unfold penOk clockB at ho
    cases hv : hvB l with
    | false => rw [if_neg (by decide), if_pos trivial]
    | true =>
      rw [if_pos rfl]
      rw [hv] at ho
      cases c1 : (decide (1 ≤ cost) && decide (cost ≤ 100)) with
      | false => rw [if_neg (by decide), if_pos trivial]
      | true =>
        rw [if_pos rfl]
        rw [c1] at ho
        cases c2 : (decide (1 ≤ fade) && decide (fade ≤ 20)) with
        | false => rw [if_neg (by decide), if_pos trivial]
        | true =>
          rw [c2] at ho
          rw [if_pos rfl]
          rw [Bool.true_and, Bool.true_and, Bool.true_and] at ho
          rw [ho, if_pos (by decide)]

end Go.Proofs.Ytjhidlmaphdelaa.PAll

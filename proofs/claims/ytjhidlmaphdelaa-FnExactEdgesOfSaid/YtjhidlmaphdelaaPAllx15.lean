/- Proved here: contracts of functions of the given program, or lemmas on them, for the laws of this seat. Written by xprint.py, a program of this session, on the ground of the kit's print; parts by hand: wip/x/ext. -/
import Derived.Test.YtjhidlmaphdelaaPAllx0
import Derived.Test.YtjhidlmaphdelaaPAllx2
namespace Go.Proofs.Ytjhidlmaphdelaa.PAll
open Go.RowKit Go.Proofs.YtjhidlmaphdelaaW.PrintWords Go.Proofs.YtjhidlmaphdelaaW.PrintLast Go.Proofs.YtjhidlmaphdelaaW.PrintMore
attribute [local go_sem] max2_int min2_int max_two min_two max_three min_three max_four min_four   -- for this text's walks alone
set_option linter.unusedVariables false
set_option linter.unusedSimpArgs false

/-! ### impl_EdgesOf: function 30 -/
def impl_EdgesOf.l0 : Nat → List Int → Int → List (S39) → Bool → Int → Int → Option ((List (S39)))
  | 0, _, _, _, _, _, _ => none
  | k + 1, x0, x1, x7, x8, x17, x18 => if x18 < x17 then ((impl_heard.f x0 x1 x18).bind fun t300 => (if (t300 != x8) = true then (if x7.length < 8796093022208 then (impl_EdgesOf.l0 k x0 x1 (x7 ++ [(⟨x18, t300⟩ : S39)]) t300 x17 (wrap64 (x18 + 1))) else (none)) else (impl_EdgesOf.l0 k x0 x1 x7 x8 x17 (wrap64 (x18 + 1))))) else (some x7)
def impl_EdgesOf.f (k : Nat) (l0 : List Int) (a1 : Int) (a2 : Int) : Option ((List (S39))) := (impl_watch.f l0 a1 a2).bind fun t299 => (if t299 = true then (impl_EdgesOf.l0 k l0 a1 ([] : List (S39)) false (wrap64 (a2 + 1)) 0) else (some ([] : List (S39))))
theorem impl_EdgesOf.mono_l : ∀ k, (∀ y0 y1 y2 y3 y4 y5, LeO (impl_EdgesOf.l0 k y0 y1 y2 y3 y4 y5) (impl_EdgesOf.l0 (k + 1) y0 y1 y2 y3 y4 y5))
  | 0 => fun _ _ _ _ _ _ r h => by simp [impl_EdgesOf.l0] at h
  | k + 1 => by
    have ih0 := impl_EdgesOf.mono_l k
    · intro y0 y1 y2 y3 y4 y5
      unfold impl_EdgesOf.l0
      repeat' first
      | (with_reducible exact ih0 _ _ _ _ _ _)
      | (with_reducible exact LeO.refl _)
      | (with_reducible exact LeO.none _)
      | (with_reducible refine LeO.ite ?_ ?_)
      | (with_reducible refine LeO.bind ?_ (fun _ => ?_))
      | exact ih0 _ _ _ _ _ _
      | exact LeO.none _
      | refine LeO.ite ?_ ?_
      | refine LeO.bind ?_ (fun _ => ?_)
theorem impl_EdgesOf.mono : ∀ a0 a1 a2 k, LeO (impl_EdgesOf.f k a0 a1 a2) (impl_EdgesOf.f (k + 1) a0 a1 a2) := by
  intro a0 a1 a2 k
  have ih0 := impl_EdgesOf.mono_l k
  unfold impl_EdgesOf.f
  repeat' first
      | (with_reducible exact ih0 _ _ _ _ _ _)
      | (with_reducible exact LeO.refl _)
      | (with_reducible exact LeO.none _)
      | (with_reducible refine LeO.ite ?_ ?_)
      | (with_reducible refine LeO.bind ?_ (fun _ => ?_))
      | exact ih0 _ _ _ _ _ _
      | exact LeO.none _
      | refine LeO.ite ?_ ?_
      | refine LeO.bind ?_ (fun _ => ?_)
set_option maxHeartbeats 8000000 in
set_option maxRecDepth 100000 in
theorem impl_EdgesOf.calls (k : Nat) (A0 : Option Addr) (c0 : Nat) (l0 : List Int) (a1 : Int) (a2 : Int) (r : List (S39)) (w : World) (hr0 : Kd.C (Kd.int .i64) w A0 l0.length l0) (hc0 : l0.length ≤ c0) (h : impl_EdgesOf.f k l0 a1 a2 = some r) :
    Calls Try.prog 30 #[.slice A0 l0.length c0, .int .i64 a1, .int .i64 a2] w fun e w' => ∃ v0_ : Value, e = .returned (v0_) ∧ Kd.R k39 39 w' w.heap.size (fun _ => True) v0_ r ∧ Below w.heap.size w w' := by
  have hu39 := Try.underlying39
  have HR0 := Aside0.mk hr0
  have HC0 := Aside0.mk hc0
  clear hr0 hc0
  have HB := Aside0.mk (Below.refl w.heap.size w)
  have H : ((impl_watch.f l0 a1 a2).bind fun t299 => (if t299 = true then (impl_EdgesOf.l0 k l0 a1 ([] : List (S39)) false (wrap64 (a2 + 1)) 0) else (some ([] : List (S39))))) = some r := h
  clear h
  replace H := Option.bind_eq_some_iff.mp H
  obtain ⟨t299, A40, H⟩ := H
  replace H : (if t299 = true then (impl_EdgesOf.l0 k l0 a1 ([] : List (S39)) false (wrap64 (a2 + 1)) 0) else (some ([] : List (S39)))) = some r := H
  have A4 := Aside0.mk A40
  clear A40
  by_cases c5 : t299 = true
  · subst c5
    have H1 : (impl_EdgesOf.l0 k l0 a1 ([] : List (S39)) false (wrap64 (a2 + 1)) 0) = some r := by rw [if_pos rfl] at H; exact H
    clear H
    have H := H1
    clear H1
    have H' := Aside0.mk H
    clear H
    go_enter Try.func30, Try.ntmps30
    go_wp2_with (first | ((with_reducible refine gate_callee (f := 44) rfl ?_); refine goesL_ (some 14) rfl rfl Try.func44 (by kernel_rfl) rfl #[.slice A0 l0.length c0, .int .i64 a1, .int .i64 a2] rfl (by (try simp only [List.map_toArray, List.map_cons, List.map_nil]); first | done | rfl | (simp only [List.length_drop, List.length_take]; rfl)) ?_; (with_reducible refine (impl_watch.calls _ _ l0 a1 a2 true _ ?side1 ?side2 A4.out).mono ?_); (case side1 => repeat (first | exact HR0.out | (with_reducible refine Kd.C_alloc ?_ _) | (with_reducible refine Kd.C_drewN ?_ _) | (with_reducible refine Kd.C_drew ?_))); (case side2 => exact HC0.out); rintro e w6 ⟨rfl, hb⟩; refine ⟨_, rfl, ?_⟩; have n0_ := Aside0.mk (below_step (by repeat (first | (with_reducible first | exact HB.out | apply below_alloc | apply pw_below_drewN | apply below_drew1) | exact HB.out)) hb); clear HB; have HB := n0_; clear n0_; (try clear hb); (try clear hb2); (try clear hk); (try clear hi)))
    go_loopg [7, 8, 18] k (fun kq v7 v8 v18 w' => ∃ (x7_1 : List (S39)) (x8_1 : Bool) (x18_1 : Int), v8 = .bool x8_1 ∧ v18 = .int .i64 x18_1 ∧ Aside0 (impl_EdgesOf.l0 kq l0 a1 x7_1 x8_1 (wrap64 (a2 + 1)) x18_1 = some r) ∧ Aside0 (kq ≤ k) ∧ Aside0 (Kd.R k39 39 w' w.heap.size (fun _ => True) v7 x7_1) ∧ Aside0 (Below w.heap.size w w'))
    case atStart => exact ⟨(([] : List (S39))), (false), (0), (by first | rfl | (simp; done) | (simp [*]; done)), (by first | rfl | (simp; done) | (simp [*]; done)), H', ⟨Nat.le_refl _⟩, ⟨by first | exact Kd.R_nil _ _ _ _ _ | exact Kd.N_nil _ _ _ _ _ | exact Kd.V_nil _ _ _ _ _ | exact Kd.Q_nil _ _ _ _ _ | exact Kd.S_nil _ _ _ _ _⟩, ⟨by repeat (first | (with_reducible first | exact HB.out | apply below_alloc | apply pw_below_drewN | apply below_drew1) | exact HB.out)⟩⟩
    case round =>
      clear H'
      try clear p2
      try clear c3
      try clear c4
      try clear c5
      try clear p6
      obtain ⟨x7_1, x8_1, x18_1, rfl, rfl, HA, HK1, HO_7, HB⟩ := hrel
      cases gk with
      | zero => exact absurd HA.out (by simp [impl_EdgesOf.l0])
      | succ k1 =>
        have H := HA.out
        clear HA
        simp only [impl_EdgesOf.l0] at H
        by_cases c7 : x18_1 < (wrap64 (a2 + 1))
        · rw [if_pos c7] at H
          have c7b0 : decide (x18_1 < (wrap64 (a2 + 1))) = true := decide_eq_true c7
          clear c7
          replace H := Option.bind_eq_some_iff.mp H
          obtain ⟨t300, A80, H⟩ := H
          replace H : (if (t300 != x8_1) = true then (if x7_1.length < 8796093022208 then (impl_EdgesOf.l0 k1 l0 a1 (x7_1 ++ [(⟨x18_1, t300⟩ : S39)]) t300 (wrap64 (a2 + 1)) (wrap64 (x18_1 + 1))) else (none)) else (impl_EdgesOf.l0 k1 l0 a1 x7_1 x8_1 (wrap64 (a2 + 1)) (wrap64 (x18_1 + 1)))) = some r := H
          have A8 := Aside0.mk A80
          clear A80
          by_cases c9 : (t300 != x8_1) = true
          · rw [if_pos c9] at H
            have c9b0 : (t300 != x8_1) = true := c9
            (try (have c9b1 : decide (t300 = x8_1) = false := by simpa using c9))
            (try (have c9b2 : (t300 == x8_1) = false := by simpa using c9))
            (try (have c9b3 : ¬ (t300 = x8_1) := by simpa using c9))
            clear c9
            by_cases c10 : x7_1.length < 8796093022208
            · rw [if_pos c10] at H
              have LMc10 := Aside0.mk c10
              clear c10
              obtain ⟨y301, hy301⟩ : ∃ y_ : List (S39), y_ = (x7_1 ++ [(⟨x18_1, t300⟩ : S39)]) := ⟨_, rfl⟩
              replace H : (impl_EdgesOf.l0 k1 l0 a1 y301 t300 (wrap64 (a2 + 1)) (wrap64 (x18_1 + 1))) = some r := by first | (rw [hy301]; with_reducible exact H) | (have H2_ := (Option.bind_some _ _).symm.trans H; rw [hy301]; with_reducible exact H2_) | (have H2_ := (Option.bind_some _ _).symm.trans H; with_reducible exact H2_) | with_reducible exact H | (rw [hy301]; exact H) | exact H
              have Ny301 := Aside0.mk hy301
              clear hy301
              have H' := Aside0.mk H
              clear H
              go_wp2_with (first | ((with_reducible refine gate_callee (f := 45) rfl ?_); refine goesL_ (some 24) rfl rfl Try.func45 (by kernel_rfl) rfl #[.slice A0 l0.length c0, .int .i64 a1, .int .i64 x18_1] rfl (by (try simp only [List.map_toArray, List.map_cons, List.map_nil]); first | done | rfl | (simp only [List.length_drop, List.length_take]; rfl)) ?_; (with_reducible refine (impl_heard.calls _ _ l0 a1 x18_1 t300 _ ?side1 ?side2 A8.out).mono ?_); (case side1 => repeat (first | exact (Kd.C_below HR0.out HB.out) | (with_reducible refine Kd.C_alloc ?_ _) | (with_reducible refine Kd.C_drewN ?_ _) | (with_reducible refine Kd.C_drew ?_))); (case side2 => exact HC0.out); rintro e w11 ⟨rfl, hb⟩; refine ⟨_, rfl, ?_⟩; have n0_ := Aside0.mk (Kd.R_below (by (with_reducible repeat (first | apply Kd.R_alloc | apply Kd.R_drewN | apply Kd.R_drew)); exact HO_7.out) hb); have n1_ := Aside0.mk (below_step (by repeat (first | (with_reducible first | exact HB.out | apply below_alloc | apply pw_below_drewN | apply below_drew1) | exact HB.out)) hb); clear HO_7; clear HB; have HO_7 := n0_; have HB := n1_; clear n0_ n1_; (try clear hb); (try clear hb2); (try clear hk); (try clear hi)) | ((with_reducible refine gate_builtin (b := .append) (xs := #[.tmp 28, .tmp 32]) rfl ?_); at_builtin; refine Kd.R_append k39 (w0 := w) w.heap.size rfl (.tmp 28) (.tmp 32) 36 39 (.agg #[(.int .i64 0), (.bool false)]) 16 rfl Try.underlying36 info39 rfl (by decide) (by omega) u7 x7_1 (⟨x18_1, t300⟩ : S39) [.int .i64 x18_1, .bool t300] (fun _ => True) (fun _ => False) rfl rfl ?aP (fun _ hk => hk.elim) ?aF ?aO ?aB ?aS ?aL ?_; (case aP => exact k39_mkM _ _ _ (⟨x18_1, t300⟩ : S39)); (case aB => exact (by repeat (first | (with_reducible first | exact HB.out | apply below_alloc | apply pw_below_drewN | apply below_drew1) | exact HB.out))); (case aF => exact (fun _ _ => trivial)); (case aO => exact (by (with_reducible repeat (first | apply Kd.R_alloc | apply Kd.R_drewN | apply Kd.R_drew)); exact HO_7.out)); (case aS => exact (below_size (by repeat (first | (with_reducible first | exact HB.out | apply below_alloc | apply pw_below_drewN | apply below_drew1) | exact HB.out)))); (case aL => have := LMc10.out; omega); intro v302 w12 ho hb hg hat; rw [← Ny301.out] at ho; have n0_ := Aside0.mk (hb); have n1_ := Aside0.mk (ho); clear HB; clear HO_7; have HB := n0_; have HO303 := n1_; clear n0_ n1_; clear ho hb hg hat))
              go_roundg k1
              case measure => have := HK1.out; omega
              case rel => exact ⟨(y301), (t300), (wrap64 (x18_1 + 1)), (by first | rfl | (simp; done) | (simp [*]; done)), (by first | rfl | (simp; done) | (simp [*]; done)), H', ⟨by have := HK1.out; omega⟩, ⟨by (with_reducible repeat (first | apply Kd.R_alloc | apply Kd.R_drewN | apply Kd.R_drew)); exact HO303.out⟩, ⟨by repeat (first | (with_reducible first | exact HB.out | apply below_alloc | apply pw_below_drewN | apply below_drew1) | exact HB.out)⟩⟩
            · rw [if_neg c10] at H
              exact absurd H (by simp)
          · rw [if_neg c9] at H
            have c9b0 : (t300 != x8_1) = false := by simpa using c9
            (try (have c9b1 : decide (t300 = x8_1) = true := by simpa using c9))
            (try (have c9b2 : (t300 == x8_1) = true := by simpa using c9))
            clear c9
            have H' := Aside0.mk H
            clear H
            go_wp2_with (first | ((with_reducible refine gate_callee (f := 45) rfl ?_); refine goesL_ (some 24) rfl rfl Try.func45 (by kernel_rfl) rfl #[.slice A0 l0.length c0, .int .i64 a1, .int .i64 x18_1] rfl (by (try simp only [List.map_toArray, List.map_cons, List.map_nil]); first | done | rfl | (simp only [List.length_drop, List.length_take]; rfl)) ?_; (with_reducible refine (impl_heard.calls _ _ l0 a1 x18_1 t300 _ ?side1 ?side2 A8.out).mono ?_); (case side1 => repeat (first | exact (Kd.C_below HR0.out HB.out) | (with_reducible refine Kd.C_alloc ?_ _) | (with_reducible refine Kd.C_drewN ?_ _) | (with_reducible refine Kd.C_drew ?_))); (case side2 => exact HC0.out); rintro e w13 ⟨rfl, hb⟩; refine ⟨_, rfl, ?_⟩; have n0_ := Aside0.mk (Kd.R_below (by (with_reducible repeat (first | apply Kd.R_alloc | apply Kd.R_drewN | apply Kd.R_drew)); exact HO_7.out) hb); have n1_ := Aside0.mk (below_step (by repeat (first | (with_reducible first | exact HB.out | apply below_alloc | apply pw_below_drewN | apply below_drew1) | exact HB.out)) hb); clear HO_7; clear HB; have HO_7 := n0_; have HB := n1_; clear n0_ n1_; (try clear hb); (try clear hb2); (try clear hk); (try clear hi)))
            go_roundg k1
            case measure => have := HK1.out; omega
            case rel => exact ⟨(x7_1), (x8_1), (wrap64 (x18_1 + 1)), (by first | rfl | (simp; done) | (simp [*]; done)), (by first | rfl | (simp; done) | (simp [*]; done)), H', ⟨by have := HK1.out; omega⟩, ⟨by (with_reducible repeat (first | apply Kd.R_alloc | apply Kd.R_drewN | apply Kd.R_drew)); exact HO_7.out⟩, ⟨by repeat (first | (with_reducible first | exact HB.out | apply below_alloc | apply pw_below_drewN | apply below_drew1) | exact HB.out)⟩⟩
        · rw [if_neg c7] at H
          have c7b0 : decide (x18_1 < (wrap64 (a2 + 1))) = false := decide_eq_false c7
          clear c7
          obtain rfl := Option.some.inj H
          go_wp2
          go_ret
          exact ⟨_, by first | rfl | (simp [errW_none, errW_some] <;> rfl) | (simp [*, errW_none, errW_some] <;> rfl), by (with_reducible repeat (first | apply Kd.R_alloc | apply Kd.R_drewN | apply Kd.R_drew)); exact HO_7.out, by repeat (first | (with_reducible first | exact HB.out | apply below_alloc | apply pw_below_drewN | apply below_drew1) | exact HB.out)⟩
  · replace c5 := Bool.eq_false_iff.mpr c5
    subst c5
    have H1 : (some ([] : List (S39))) = some r := by rw [if_neg (show ¬ (false = true) by decide)] at H; exact H
    clear H
    have H := H1
    clear H1
    obtain rfl := Option.some.inj H
    go_enter Try.func30, Try.ntmps30
    go_wp2_with (first | ((with_reducible refine gate_callee (f := 44) rfl ?_); refine goesL_ (some 14) rfl rfl Try.func44 (by kernel_rfl) rfl #[.slice A0 l0.length c0, .int .i64 a1, .int .i64 a2] rfl (by (try simp only [List.map_toArray, List.map_cons, List.map_nil]); first | done | rfl | (simp only [List.length_drop, List.length_take]; rfl)) ?_; (with_reducible refine (impl_watch.calls _ _ l0 a1 a2 false _ ?side1 ?side2 A4.out).mono ?_); (case side1 => repeat (first | exact HR0.out | (with_reducible refine Kd.C_alloc ?_ _) | (with_reducible refine Kd.C_drewN ?_ _) | (with_reducible refine Kd.C_drew ?_))); (case side2 => exact HC0.out); rintro e w14 ⟨rfl, hb⟩; refine ⟨_, rfl, ?_⟩; have n0_ := Aside0.mk (below_step (by repeat (first | (with_reducible first | exact HB.out | apply below_alloc | apply pw_below_drewN | apply below_drew1) | exact HB.out)) hb); clear HB; have HB := n0_; clear n0_; (try clear hb); (try clear hb2); (try clear hk); (try clear hi)))
    go_ret
    exact ⟨_, by first | rfl | (simp [errW_none, errW_some] <;> rfl) | (simp [*, errW_none, errW_some] <;> rfl), by first | exact Kd.R_nil _ _ _ _ _ | exact Kd.N_nil _ _ _ _ _ | exact Kd.V_nil _ _ _ _ _ | exact Kd.Q_nil _ _ _ _ _ | exact Kd.S_nil _ _ _ _ _, by repeat (first | (with_reducible first | exact HB.out | apply below_alloc | apply pw_below_drewN | apply below_drew1) | exact HB.out)⟩

/-! ### spec_EdgesOf: function 31 -/
def spec_EdgesOf.l0 : Nat → List Int → Int → Int → List (S39) → Bool → Int → Option ((List (S39)))
  | 0, _, _, _, _, _, _ => none
  | k + 1, x0, x1, x2, x7, x8, x9 => if x9 ≤ x2 then ((spec_l18Alive.f k x0 x1 x9).bind fun t308 => (if (t308 != x8) = true then (if x7.length < 8796093022208 then (spec_EdgesOf.l0 k x0 x1 x2 (x7 ++ [(⟨x9, t308⟩ : S39)]) t308 (wrap64 (x9 + 1))) else (none)) else (spec_EdgesOf.l0 k x0 x1 x2 x7 t308 (wrap64 (x9 + 1))))) else (some x7)
def spec_EdgesOf.f (k : Nat) (l0 : List Int) (a1 : Int) (a2 : Int) : Option ((List (S39))) := (some (([] : List (S39)) : List (S39))).bind fun y304 => ((spec_l18Fits.f k l0 a1 a2).bind fun t307 => (if t307 = true then (spec_EdgesOf.l0 k l0 a1 a2 y304 false 0) else (some y304)))
theorem spec_EdgesOf.mono_l : ∀ k, (∀ y0 y1 y2 y3 y4 y5, LeO (spec_EdgesOf.l0 k y0 y1 y2 y3 y4 y5) (spec_EdgesOf.l0 (k + 1) y0 y1 y2 y3 y4 y5))
  | 0 => fun _ _ _ _ _ _ r h => by simp [spec_EdgesOf.l0] at h
  | k + 1 => by
    have ih0 := spec_EdgesOf.mono_l k
    · intro y0 y1 y2 y3 y4 y5
      unfold spec_EdgesOf.l0
      repeat' first
      | (with_reducible exact ih0 _ _ _ _ _ _)
      | (with_reducible exact spec_l18Alive.mono _ _ _ _)
      | (with_reducible exact spec_l18Fits.mono _ _ _ _)
      | (with_reducible exact LeO.refl _)
      | (with_reducible exact LeO.none _)
      | (with_reducible refine LeO.ite ?_ ?_)
      | (with_reducible refine LeO.bind ?_ (fun _ => ?_))
      | exact ih0 _ _ _ _ _ _
      | exact spec_l18Alive.mono _ _ _ _
      | exact spec_l18Fits.mono _ _ _ _
      | exact LeO.none _
      | refine LeO.ite ?_ ?_
      | refine LeO.bind ?_ (fun _ => ?_)
theorem spec_EdgesOf.mono : ∀ a0 a1 a2 k, LeO (spec_EdgesOf.f k a0 a1 a2) (spec_EdgesOf.f (k + 1) a0 a1 a2) := by
  intro a0 a1 a2 k
  have ih0 := spec_EdgesOf.mono_l k
  unfold spec_EdgesOf.f
  repeat' first
      | (with_reducible exact ih0 _ _ _ _ _ _)
      | (with_reducible exact spec_l18Alive.mono _ _ _ _)
      | (with_reducible exact spec_l18Fits.mono _ _ _ _)
      | (with_reducible exact LeO.refl _)
      | (with_reducible exact LeO.none _)
      | (with_reducible refine LeO.ite ?_ ?_)
      | (with_reducible refine LeO.bind ?_ (fun _ => ?_))
      | exact ih0 _ _ _ _ _ _
      | exact spec_l18Alive.mono _ _ _ _
      | exact spec_l18Fits.mono _ _ _ _
      | exact LeO.none _
      | refine LeO.ite ?_ ?_
      | refine LeO.bind ?_ (fun _ => ?_)
set_option maxHeartbeats 8000000 in
set_option maxRecDepth 100000 in
theorem spec_EdgesOf.calls (k : Nat) (A0 : Option Addr) (c0 : Nat) (l0 : List Int) (a1 : Int) (a2 : Int) (r : List (S39)) (w : World) (hr0 : Kd.C (Kd.int .i64) w A0 l0.length l0) (hc0 : l0.length ≤ c0) (h : spec_EdgesOf.f k l0 a1 a2 = some r) :
    Calls Try.prog 31 #[.slice A0 l0.length c0, .int .i64 a1, .int .i64 a2] w fun e w' => ∃ v0_ : Value, e = .returned (v0_) ∧ Kd.R k39 39 w' w.heap.size (fun _ => True) v0_ r ∧ Below w.heap.size w w' := by
  have hu39 := Try.underlying39
  have HR0 := Aside0.mk hr0
  have HC0 := Aside0.mk hc0
  clear hr0 hc0
  have HB := Aside0.mk (Below.refl w.heap.size w)
  have H : ((some (([] : List (S39)) : List (S39))).bind fun y304 => ((spec_l18Fits.f k l0 a1 a2).bind fun t307 => (if t307 = true then (spec_EdgesOf.l0 k l0 a1 a2 y304 false 0) else (some y304)))) = some r := h
  clear h
  obtain ⟨y304, hy304⟩ : ∃ y_ : List (S39), y_ = (([] : List (S39))) := ⟨_, rfl⟩
  replace H : ((spec_l18Fits.f k l0 a1 a2).bind fun t307 => (if t307 = true then (spec_EdgesOf.l0 k l0 a1 a2 y304 false 0) else (some y304))) = some r := by first | (rw [hy304]; with_reducible exact H) | (have H2_ := (Option.bind_some _ _).symm.trans H; rw [hy304]; with_reducible exact H2_) | (have H2_ := (Option.bind_some _ _).symm.trans H; with_reducible exact H2_) | with_reducible exact H | (rw [hy304]; exact H) | exact H
  have Ny304 := Aside0.mk hy304
  clear hy304
  replace H := Option.bind_eq_some_iff.mp H
  obtain ⟨t307, A40, H⟩ := H
  replace H : (if t307 = true then (spec_EdgesOf.l0 k l0 a1 a2 y304 false 0) else (some y304)) = some r := H
  have A4 := Aside0.mk A40
  clear A40
  by_cases c5 : t307 = true
  · subst c5
    have H1 : (spec_EdgesOf.l0 k l0 a1 a2 y304 false 0) = some r := by rw [if_pos rfl] at H; exact H
    clear H
    have H := H1
    clear H1
    have H' := Aside0.mk H
    clear H
    go_enter Try.func31, Try.ntmps31
    go_wp2_with (first | ((with_reducible refine gate_dst (N := 11) rfl ?_); refine Kd.R_lit k39 _ 39 ?hg (N := 11) ?hd (xs := ([] : List (S39))) (inner := []) (ok := fun _ => True) (okp := fun _ => True) ?hr ?hp (fun _ hk => hk) trivial (Below.refl _ _) (Nat.le_refl _) (by simp) ?_; (case hd => rfl); (case hg => rfl); (case hr => first | (go_simp; done) | (go_simp; rfl)); (case hp => exact (Reps.none _ _)); intro v305 w6 ho7 hb hg_ hnew_; clear hg_ hnew_; (first | rw [← Ny304.out] at ho7 | (simp only [Int.reduceToNat] at ho7; rw [← Ny304.out] at ho7)); have n0_ := Aside0.mk (Kd.R_lower ho7 (below_size (by repeat (first | (with_reducible first | exact HB.out | apply below_alloc | apply pw_below_drewN | apply below_drew1) | exact HB.out)))); have n1_ := Aside0.mk (below_step (by repeat (first | (with_reducible first | exact HB.out | apply below_alloc | apply pw_below_drewN | apply below_drew1) | exact HB.out)) hb); clear HB; have HO306 := n0_; have HB := n1_; clear n0_ n1_; clear hb ho7) | ((with_reducible refine gate_callee (f := 42) rfl ?_); refine goesL_ (some 15) rfl rfl Try.func42 (by kernel_rfl) rfl #[.slice A0 l0.length c0, .int .i64 a1, .int .i64 a2] rfl (by (try simp only [List.map_toArray, List.map_cons, List.map_nil]); first | done | rfl | (simp only [List.length_drop, List.length_take]; rfl)) ?_; (with_reducible refine (spec_l18Fits.calls k _ _ l0 a1 a2 true _ ?side1 ?side2 A4.out).mono ?_); (case side1 => repeat (first | exact (Kd.C_below HR0.out HB.out) | (with_reducible refine Kd.C_alloc ?_ _) | (with_reducible refine Kd.C_drewN ?_ _) | (with_reducible refine Kd.C_drew ?_))); (case side2 => exact HC0.out); rintro e w' ⟨rfl, ⟨nd, rfl⟩⟩; refine ⟨_, rfl, ?_⟩))
    go_loopg [7, 8, 9] k (fun kq v7 v8 v9 w' => ∃ (x7_1 : List (S39)) (x8_1 : Bool) (x9_1 : Int), v8 = .bool x8_1 ∧ v9 = .int .i64 x9_1 ∧ Aside0 (spec_EdgesOf.l0 kq l0 a1 a2 x7_1 x8_1 x9_1 = some r) ∧ Aside0 (kq ≤ k) ∧ Aside0 (Kd.R k39 39 w' w.heap.size (fun _ => True) v7 x7_1) ∧ Aside0 (Below w.heap.size w w'))
    case atStart => exact ⟨(y304), (false), (0), (by first | rfl | (simp; done) | (simp [*]; done)), (by first | rfl | (simp; done) | (simp [*]; done)), H', ⟨Nat.le_refl _⟩, ⟨by (with_reducible repeat (first | apply Kd.R_alloc | apply Kd.R_drewN | apply Kd.R_drew)); exact HO306.out⟩, ⟨by repeat (first | (with_reducible first | exact HB.out | apply below_alloc | apply pw_below_drewN | apply below_drew1) | exact HB.out)⟩⟩
    case round =>
      clear H'
      try clear p2
      try clear c3
      try clear c4
      try clear c5
      obtain ⟨x7_1, x8_1, x9_1, rfl, rfl, HA, HK1, HO_7, HB⟩ := hrel
      cases gk with
      | zero => exact absurd HA.out (by simp [spec_EdgesOf.l0])
      | succ k1 =>
        have H := HA.out
        clear HA
        simp only [spec_EdgesOf.l0] at H
        by_cases c8 : x9_1 ≤ a2
        · rw [if_pos c8] at H
          have c8b0 : decide (x9_1 ≤ a2) = true := decide_eq_true c8
          clear c8
          replace H := Option.bind_eq_some_iff.mp H
          obtain ⟨t308, A90, H⟩ := H
          replace H : (if (t308 != x8_1) = true then (if x7_1.length < 8796093022208 then (spec_EdgesOf.l0 k1 l0 a1 a2 (x7_1 ++ [(⟨x9_1, t308⟩ : S39)]) t308 (wrap64 (x9_1 + 1))) else (none)) else (spec_EdgesOf.l0 k1 l0 a1 a2 x7_1 t308 (wrap64 (x9_1 + 1)))) = some r := H
          have A9 := Aside0.mk A90
          clear A90
          by_cases c10 : (t308 != x8_1) = true
          · rw [if_pos c10] at H
            have c10b0 : (t308 != x8_1) = true := c10
            (try (have c10b1 : decide (t308 = x8_1) = false := by simpa using c10))
            (try (have c10b2 : (t308 == x8_1) = false := by simpa using c10))
            (try (have c10b3 : ¬ (t308 = x8_1) := by simpa using c10))
            clear c10
            by_cases c11 : x7_1.length < 8796093022208
            · rw [if_pos c11] at H
              have LMc11 := Aside0.mk c11
              clear c11
              obtain ⟨y309, hy309⟩ : ∃ y_ : List (S39), y_ = (x7_1 ++ [(⟨x9_1, t308⟩ : S39)]) := ⟨_, rfl⟩
              replace H : (spec_EdgesOf.l0 k1 l0 a1 a2 y309 t308 (wrap64 (x9_1 + 1))) = some r := by first | (rw [hy309]; with_reducible exact H) | (have H2_ := (Option.bind_some _ _).symm.trans H; rw [hy309]; with_reducible exact H2_) | (have H2_ := (Option.bind_some _ _).symm.trans H; with_reducible exact H2_) | with_reducible exact H | (rw [hy309]; exact H) | exact H
              have Ny309 := Aside0.mk hy309
              clear hy309
              have H' := Aside0.mk H
              clear H
              go_wp2_with (first | ((with_reducible refine gate_callee (f := 43) rfl ?_); refine goesL_ (some 26) rfl rfl Try.func43 (by kernel_rfl) rfl #[.slice A0 l0.length c0, .int .i64 a1, .int .i64 x9_1] rfl (by (try simp only [List.map_toArray, List.map_cons, List.map_nil]); first | done | rfl | (simp only [List.length_drop, List.length_take]; rfl)) ?_; (with_reducible refine (spec_l18Alive.calls k1 _ _ l0 a1 x9_1 t308 _ ?side1 ?side2 A9.out).mono ?_); (case side1 => repeat (first | exact (Kd.C_below HR0.out HB.out) | (with_reducible refine Kd.C_alloc ?_ _) | (with_reducible refine Kd.C_drewN ?_ _) | (with_reducible refine Kd.C_drew ?_))); (case side2 => exact HC0.out); rintro e w' ⟨rfl, ⟨nd, rfl⟩⟩; refine ⟨_, rfl, ?_⟩) | ((with_reducible refine gate_builtin (b := .append) (xs := #[.tmp 30, .tmp 34]) rfl ?_); at_builtin; refine Kd.R_append k39 (w0 := w) w.heap.size rfl (.tmp 30) (.tmp 34) 36 39 (.agg #[(.int .i64 0), (.bool false)]) 16 rfl Try.underlying36 info39 rfl (by decide) (by omega) u7 x7_1 (⟨x9_1, t308⟩ : S39) [.int .i64 x9_1, .bool t308] (fun _ => True) (fun _ => False) rfl rfl ?aP (fun _ hk => hk.elim) ?aF ?aO ?aB ?aS ?aL ?_; (case aP => exact k39_mkM _ _ _ (⟨x9_1, t308⟩ : S39)); (case aB => exact (by repeat (first | (with_reducible first | exact HB.out | apply below_alloc | apply pw_below_drewN | apply below_drew1) | exact HB.out))); (case aF => exact (fun _ _ => trivial)); (case aO => exact (by (with_reducible repeat (first | apply Kd.R_alloc | apply Kd.R_drewN | apply Kd.R_drew)); exact HO_7.out)); (case aS => exact (below_size (by repeat (first | (with_reducible first | exact HB.out | apply below_alloc | apply pw_below_drewN | apply below_drew1) | exact HB.out)))); (case aL => have := LMc11.out; omega); intro v310 w12 ho hb hg hat; rw [← Ny309.out] at ho; have n0_ := Aside0.mk (hb); have n1_ := Aside0.mk (ho); clear HB; clear HO_7; have HB := n0_; have HO311 := n1_; clear n0_ n1_; clear ho hb hg hat))
              go_roundg k1
              case measure => have := HK1.out; omega
              case rel => exact ⟨(y309), (t308), (wrap64 (x9_1 + 1)), (by first | rfl | (simp; done) | (simp [*]; done)), (by first | rfl | (simp; done) | (simp [*]; done)), H', ⟨by have := HK1.out; omega⟩, ⟨by (with_reducible repeat (first | apply Kd.R_alloc | apply Kd.R_drewN | apply Kd.R_drew)); exact HO311.out⟩, ⟨by repeat (first | (with_reducible first | exact HB.out | apply below_alloc | apply pw_below_drewN | apply below_drew1) | exact HB.out)⟩⟩
            · rw [if_neg c11] at H
              exact absurd H (by simp)
          · rw [if_neg c10] at H
            have c10b0 : (t308 != x8_1) = false := by simpa using c10
            (try (have c10b1 : decide (t308 = x8_1) = true := by simpa using c10))
            (try (have c10b2 : (t308 == x8_1) = true := by simpa using c10))
            clear c10
            have H' := Aside0.mk H
            clear H
            go_wp2_with (first | ((with_reducible refine gate_callee (f := 43) rfl ?_); refine goesL_ (some 26) rfl rfl Try.func43 (by kernel_rfl) rfl #[.slice A0 l0.length c0, .int .i64 a1, .int .i64 x9_1] rfl (by (try simp only [List.map_toArray, List.map_cons, List.map_nil]); first | done | rfl | (simp only [List.length_drop, List.length_take]; rfl)) ?_; (with_reducible refine (spec_l18Alive.calls k1 _ _ l0 a1 x9_1 t308 _ ?side1 ?side2 A9.out).mono ?_); (case side1 => repeat (first | exact (Kd.C_below HR0.out HB.out) | (with_reducible refine Kd.C_alloc ?_ _) | (with_reducible refine Kd.C_drewN ?_ _) | (with_reducible refine Kd.C_drew ?_))); (case side2 => exact HC0.out); rintro e w' ⟨rfl, ⟨nd, rfl⟩⟩; refine ⟨_, rfl, ?_⟩))
            go_roundg k1
            case measure => have := HK1.out; omega
            case rel => exact ⟨(x7_1), (t308), (wrap64 (x9_1 + 1)), (by first | rfl | (simp; done) | (simp [*]; done)), (by first | rfl | (simp; done) | (simp [*]; done)), H', ⟨by have := HK1.out; omega⟩, ⟨by (with_reducible repeat (first | apply Kd.R_alloc | apply Kd.R_drewN | apply Kd.R_drew)); exact HO_7.out⟩, ⟨by repeat (first | (with_reducible first | exact HB.out | apply below_alloc | apply pw_below_drewN | apply below_drew1) | exact HB.out)⟩⟩
        · rw [if_neg c8] at H
          have c8b0 : decide (x9_1 ≤ a2) = false := decide_eq_false c8
          clear c8
          obtain rfl := Option.some.inj H
          go_wp2
          go_ret
          exact ⟨_, by first | rfl | (simp [errW_none, errW_some] <;> rfl) | (simp [*, errW_none, errW_some] <;> rfl), by (with_reducible repeat (first | apply Kd.R_alloc | apply Kd.R_drewN | apply Kd.R_drew)); exact HO_7.out, by repeat (first | (with_reducible first | exact HB.out | apply below_alloc | apply pw_below_drewN | apply below_drew1) | exact HB.out)⟩
  · replace c5 := Bool.eq_false_iff.mpr c5
    subst c5
    have H1 : (some y304) = some r := by rw [if_neg (show ¬ (false = true) by decide)] at H; exact H
    clear H
    have H := H1
    clear H1
    obtain rfl := Option.some.inj H
    go_enter Try.func31, Try.ntmps31
    go_wp2_with (first | ((with_reducible refine gate_dst (N := 11) rfl ?_); refine Kd.R_lit k39 _ 39 ?hg (N := 11) ?hd (xs := ([] : List (S39))) (inner := []) (ok := fun _ => True) (okp := fun _ => True) ?hr ?hp (fun _ hk => hk) trivial (Below.refl _ _) (Nat.le_refl _) (by simp) ?_; (case hd => rfl); (case hg => rfl); (case hr => first | (go_simp; done) | (go_simp; rfl)); (case hp => exact (Reps.none _ _)); intro v305 w13 ho14 hb hg_ hnew_; clear hg_ hnew_; (first | rw [← Ny304.out] at ho14 | (simp only [Int.reduceToNat] at ho14; rw [← Ny304.out] at ho14)); have n0_ := Aside0.mk (Kd.R_lower ho14 (below_size (by repeat (first | (with_reducible first | exact HB.out | apply below_alloc | apply pw_below_drewN | apply below_drew1) | exact HB.out)))); have n1_ := Aside0.mk (below_step (by repeat (first | (with_reducible first | exact HB.out | apply below_alloc | apply pw_below_drewN | apply below_drew1) | exact HB.out)) hb); clear HB; have HO306 := n0_; have HB := n1_; clear n0_ n1_; clear hb ho14) | ((with_reducible refine gate_callee (f := 42) rfl ?_); refine goesL_ (some 15) rfl rfl Try.func42 (by kernel_rfl) rfl #[.slice A0 l0.length c0, .int .i64 a1, .int .i64 a2] rfl (by (try simp only [List.map_toArray, List.map_cons, List.map_nil]); first | done | rfl | (simp only [List.length_drop, List.length_take]; rfl)) ?_; (with_reducible refine (spec_l18Fits.calls k _ _ l0 a1 a2 false _ ?side1 ?side2 A4.out).mono ?_); (case side1 => repeat (first | exact (Kd.C_below HR0.out HB.out) | (with_reducible refine Kd.C_alloc ?_ _) | (with_reducible refine Kd.C_drewN ?_ _) | (with_reducible refine Kd.C_drew ?_))); (case side2 => exact HC0.out); rintro e w' ⟨rfl, ⟨nd, rfl⟩⟩; refine ⟨_, rfl, ?_⟩))
    go_ret
    exact ⟨_, by first | rfl | (simp [errW_none, errW_some] <;> rfl) | (simp [*, errW_none, errW_some] <;> rfl), by (with_reducible repeat (first | apply Kd.R_alloc | apply Kd.R_drewN | apply Kd.R_drew)); exact HO306.out, by repeat (first | (with_reducible first | exact HB.out | apply below_alloc | apply pw_below_drewN | apply below_drew1) | exact HB.out)⟩

-- LIB p18edges
theorem not_bne {a b : Bool} (c : ¬ (a != b) = true) : b = a := by
  cases a <;> cases b <;> first | rfl | exact absurd rfl c
theorem rdE_get (l : List S39) (i : Nat) (h : i < l.length) : rd_T39 l (i : Int) = l[i] := by simp [rd_T39, List.getD_eq_getElem?_getD, h]
def wasN (l : List Int) (dead : Int) : Nat → Bool
  | 0 => false
  | n + 1 => heardB l dead n
/-- The edges ahead of the time n. -/
def edN (l : List Int) (dead : Int) : Nat → List S39
  | 0 => []
  | n + 1 => if (heardB l dead n != wasN l dead n) = true then edN l dead n ++ [⟨n, heardB l dead n⟩] else edN l dead n
theorem edN_len (l : List Int) (dead : Int) (n : Nat) : (edN l dead n).length ≤ n := by
  induction n with
  | zero => exact Nat.le_refl _
  | succ n ih =>
    unfold edN
    split
    · rw [List.length_append, List.length_singleton]; omega
    · omega
def edF (l : List Int) (dead t : Int) : List S39 := if watchB l dead t = true then edN l dead (t.toNat + 1) else []
theorem edF_len (l : List Int) (dead t : Int) : (edF l dead t).length ≤ 2001 := by
  unfold edF
  cases hw : watchB l dead t with
  | false => exact Nat.zero_le _
  | true =>
    have := watchB_len hw
    have := edN_len l dead (t.toNat + 1)
    rw [if_pos rfl]
    omega
theorem iedges_at (l : List Int) (dead : Int) (e : Nat) (he : e ≤ 4000) (d : Nat) : ∀ (k i : Nat), i + d = e → d < k → impl_EdgesOf.l0 k l dead (edN l dead i) (wasN l dead i) e i = some (edN l dead e) := by
  induction d with
  | zero =>
    intro k i h2 hk
    obtain ⟨k, rfl⟩ : ∃ m, k = m + 1 := ⟨k - 1, by omega⟩
    simp only [impl_EdgesOf.l0]
    rw [if_neg (by omega), show i = e by omega]
  | succ d ih =>
    intro k i h2 hk
    obtain ⟨k, rfl⟩ : ∃ m, k = m + 1 := ⟨k - 1, by omega⟩
    have h1 := edN_len l dead i
    have ih' := ih k (i + 1) (by omega) (by omega)
    simp only [impl_EdgesOf.l0]
    rw [if_pos (by omega), show impl_heard.f l dead i = some (heardB l dead i) from rfl, Option.bind_some, wrap_succ (show i < e by omega) (by omega)]
    have e0 : wasN l dead (i + 1) = heardB l dead i := rfl
    have e1 : edN l dead (i + 1) = if (heardB l dead i != wasN l dead i) = true then edN l dead i ++ [⟨i, heardB l dead i⟩] else edN l dead i := rfl
    rw [e0, e1] at ih'
    by_cases c : (heardB l dead i != wasN l dead i) = true
    · rw [if_pos c, if_pos (by omega)]
      rw [if_pos c] at ih'
      exact ih'
    · rw [if_neg c]
      rw [if_neg c] at ih'
      have e2 : wasN l dead i = heardB l dead i := not_bne c
      rw [e2]
      exact ih'
theorem iedges_eq (l : List Int) (dead t : Int) (k : Nat) (hk : 2002 < k) : impl_EdgesOf.f k l dead t = some (edF l dead t) := by
  unfold impl_EdgesOf.f edF
  rw [watch_eq, Option.bind_some]
  cases hw : watchB l dead t with
  | false => rfl
  | true =>
    obtain ⟨_, _, _, h0, h1⟩ := watchB_len hw
    obtain ⟨n, rfl⟩ := Int.eq_ofNat_of_zero_le h0
    rw [if_pos rfl, if_pos rfl, wrap_eq (by omega) (by omega), Int.toNat_natCast]
    exact iedges_at l dead (n + 1) (by omega) (n + 1) k 0 (by omega) (by omega)
theorem sedges_at (l : List Int) (dead : Int) (hl : l.length ≤ 60) (e : Nat) (he : e ≤ 4000) (d : Nat) : ∀ (k i : Nat), i + d = e + 1 → d + 60 < k → spec_EdgesOf.l0 k l dead e (edN l dead i) (wasN l dead i) i = some (edN l dead (e + 1)) := by
  induction d with
  | zero =>
    intro k i h2 hk
    obtain ⟨k, rfl⟩ : ∃ m, k = m + 1 := ⟨k - 1, by omega⟩
    simp only [spec_EdgesOf.l0]
    rw [if_neg (by omega), show i = e + 1 by omega]
  | succ d ih =>
    intro k i h2 hk
    obtain ⟨k, rfl⟩ : ∃ m, k = m + 1 := ⟨k - 1, by omega⟩
    have h1 := edN_len l dead i
    have ih' := ih k (i + 1) (by omega) (by omega)
    simp only [spec_EdgesOf.l0]
    rw [if_pos (by omega), alive_eq l dead i (by omega) k (by omega), Option.bind_some, wrap_succ (show i < e + 1 by omega) (by omega)]
    have e0 : wasN l dead (i + 1) = heardB l dead i := rfl
    have e1 : edN l dead (i + 1) = if (heardB l dead i != wasN l dead i) = true then edN l dead i ++ [⟨i, heardB l dead i⟩] else edN l dead i := rfl
    rw [e0, e1] at ih'
    by_cases c : (heardB l dead i != wasN l dead i) = true
    · rw [if_pos c, if_pos (by omega)]
      rw [if_pos c] at ih'
      exact ih'
    · rw [if_neg c]
      rw [if_neg c] at ih'
      exact ih'
theorem sedges_eq (l : List Int) (dead t : Int) (hl : l.length ≤ 9223372036854775807) (k : Nat) (hk : 2100 < k) (hk2 : l.length < k) : spec_EdgesOf.f k l dead t = some (edF l dead t) := by
  unfold spec_EdgesOf.f edF
  rw [Option.bind_some, fits_eq l dead t hl k hk2, Option.bind_some]
  cases hw : watchB l dead t with
  | false => rfl
  | true =>
    obtain ⟨h2, _, _, h0, h1⟩ := watchB_len hw
    obtain ⟨n, rfl⟩ := Int.eq_ofNat_of_zero_le h0
    rw [if_pos rfl, if_pos rfl, Int.toNat_natCast]
    exact sedges_at l dead h2 n (by omega) (n + 1) k 0 (by omega) (by omega)

end Go.Proofs.Ytjhidlmaphdelaa.PAll

/- Proved here: contracts of functions of the given program, or lemmas on them, for the laws of this seat. Written by xprint.py, a program of this session, on the ground of the kit's print; parts by hand: wip/x/ext. -/
import Derived.Test.YtfbicfnokibobaaPAllx0
import Derived.Test.YtfbicfnokibobaaPAllx2
import Derived.Test.YtfbicfnokibobaaPAllx16
namespace Go.Proofs.Ytfbicfnokibobaa.PAll
open Go.RowKit Go.Proofs.YtfbicfnokibobaaW.PrintWords Go.Proofs.YtfbicfnokibobaaW.PrintLast Go.Proofs.YtfbicfnokibobaaW.PrintMore
attribute [local go_sem] max2_int min2_int max_two min_two max_three min_three max_four min_four   -- for this text's walks alone
set_option linter.unusedVariables false
set_option linter.unusedSimpArgs false

/-! ### spec_LeastBurst: function 28 -/
def spec_LeastBurst.l0 : Nat → Int → List (S35) → Int → Option (Int)
  | 0, _, _, _ => none
  | k + 1, x0, x1, x5 => if x5 ≤ 100 then ((spec_Conforms.f k x0 x5 x1).bind fun t333 => (if t333 = true then (some x5) else (spec_LeastBurst.l0 k x0 x1 (wrap64 (x5 + 1))))) else (some (-1))
def spec_LeastBurst.f (k : Nat) (a0 : Int) (l1 : List (S35)) : Option (Int) := spec_LeastBurst.l0 k a0 l1 1
theorem spec_LeastBurst.mono_l : ∀ k, (∀ y0 y1 y2, LeO (spec_LeastBurst.l0 k y0 y1 y2) (spec_LeastBurst.l0 (k + 1) y0 y1 y2))
  | 0 => fun _ _ _ r h => by simp [spec_LeastBurst.l0] at h
  | k + 1 => by
    have ih0 := spec_LeastBurst.mono_l k
    · intro y0 y1 y2
      unfold spec_LeastBurst.l0
      repeat' first
      | (with_reducible exact ih0 _ _ _)
      | (with_reducible exact spec_Conforms.mono _ _ _ _)
      | (with_reducible exact LeO.refl _)
      | (with_reducible exact LeO.none _)
      | (with_reducible refine LeO.ite ?_ ?_)
      | (with_reducible refine LeO.bind ?_ (fun _ => ?_))
      | exact ih0 _ _ _
      | exact spec_Conforms.mono _ _ _ _
      | exact LeO.none _
      | refine LeO.ite ?_ ?_
      | refine LeO.bind ?_ (fun _ => ?_)
theorem spec_LeastBurst.mono : ∀ a0 a1 k, LeO (spec_LeastBurst.f k a0 a1) (spec_LeastBurst.f (k + 1) a0 a1) := by
  intro a0 a1 k
  have ih0 := spec_LeastBurst.mono_l k
  unfold spec_LeastBurst.f
  repeat' first
      | (with_reducible exact ih0 _ _ _)
      | (with_reducible exact spec_Conforms.mono _ _ _ _)
      | (with_reducible exact LeO.refl _)
      | (with_reducible exact LeO.none _)
      | (with_reducible refine LeO.ite ?_ ?_)
      | (with_reducible refine LeO.bind ?_ (fun _ => ?_))
      | exact ih0 _ _ _
      | exact spec_Conforms.mono _ _ _ _
      | exact LeO.none _
      | refine LeO.ite ?_ ?_
      | refine LeO.bind ?_ (fun _ => ?_)
set_option maxHeartbeats 8000000 in
set_option maxRecDepth 100000 in
theorem spec_LeastBurst.calls (k : Nat) (a0 : Int) (A1 : Option Addr) (c1 : Nat) (l1 : List (S35)) (r : Int) (w : World) (hr1 : Kd.C k35 w A1 l1.length l1) (hc1 : l1.length ≤ c1) (h : spec_LeastBurst.f k a0 l1 = some r) :
    Calls Try.prog 28 #[.int .i64 a0, .slice A1 l1.length c1] w fun e w' => e = .returned (.int .i64 r) ∧ Below w.heap.size w w' := by
  have HR1 := Aside0.mk hr1
  have HC1 := Aside0.mk hc1
  clear hr1 hc1
  have HB := Aside0.mk (Below.refl w.heap.size w)
  have H : (spec_LeastBurst.l0 k a0 l1 1) = some r := h
  clear h
  have H' := Aside0.mk H
  clear H
  go_enter Try.func28, Try.ntmps28
  go_wp2
  go_loopg [5] k (fun kq v5 w' => ∃ (x5_1 : Int), v5 = .int .i64 x5_1 ∧ Aside0 (spec_LeastBurst.l0 kq a0 l1 x5_1 = some r) ∧ Aside0 (kq ≤ k) ∧ Aside0 (Below w.heap.size w w'))
  case atStart => exact ⟨(1), (by first | rfl | (simp; done) | (simp [*]; done)), H', ⟨Nat.le_refl _⟩, ⟨by repeat (first | (with_reducible first | exact HB.out | apply below_alloc | apply pw_below_drewN | apply below_drew1) | exact HB.out)⟩⟩
  case round =>
    clear H'
    try clear c1
    try clear c2
    try clear p2
    obtain ⟨x5_1, rfl, HA, HK1, HB⟩ := hrel
    cases gk with
    | zero => exact absurd HA.out (by simp [spec_LeastBurst.l0])
    | succ k1 =>
      have H := HA.out
      clear HA
      simp only [spec_LeastBurst.l0] at H
      by_cases c3 : x5_1 ≤ 100
      · rw [if_pos c3] at H
        have c3b0 : decide (x5_1 ≤ 100) = true := decide_eq_true c3
        clear c3
        replace H := Option.bind_eq_some_iff.mp H
        obtain ⟨t333, A40, H⟩ := H
        replace H : (if t333 = true then (some x5_1) else (spec_LeastBurst.l0 k1 a0 l1 (wrap64 (x5_1 + 1)))) = some r := H
        have A4 := Aside0.mk A40
        clear A40
        by_cases c5 : t333 = true
        · subst c5
          have H1 : (some x5_1) = some r := by rw [if_pos rfl] at H; exact H
          clear H
          have H := H1
          clear H1
          obtain rfl := Option.some.inj H
          go_wp2_with (first | ((with_reducible refine gate_callee (f := 23) rfl ?_); refine goesL_ (some 13) rfl rfl Try.func23 (by kernel_rfl) rfl #[.int .i64 a0, .int .i64 x5_1, .slice A1 l1.length c1] rfl (by (try simp only [List.map_toArray, List.map_cons, List.map_nil]); first | done | rfl | (simp only [List.length_drop, List.length_take]; rfl)) ?_; (with_reducible refine (spec_Conforms.calls k1 a0 x5_1 _ _ l1 true _ ?side1 ?side2 A4.out).mono ?_); (case side1 => repeat (first | exact (Kd.C_below HR1.out HB.out) | (with_reducible refine Kd.C_alloc ?_ _) | (with_reducible refine Kd.C_drewN ?_ _) | (with_reducible refine Kd.C_drew ?_))); (case side2 => exact HC1.out); rintro e w6 ⟨rfl, hb⟩; refine ⟨_, rfl, ?_⟩; have n0_ := Aside0.mk (below_step (by repeat (first | (with_reducible first | exact HB.out | apply below_alloc | apply pw_below_drewN | apply below_drew1) | exact HB.out)) hb); clear HB; have HB := n0_; clear n0_; (try clear hb); (try clear hb2); (try clear hk); (try clear hi)))
          go_ret
          exact ⟨by first | rfl | (simp [errW_none, errW_some] <;> rfl) | (simp [*, errW_none, errW_some] <;> rfl), by repeat (first | (with_reducible first | exact HB.out | apply below_alloc | apply pw_below_drewN | apply below_drew1) | exact HB.out)⟩
        · replace c5 := Bool.eq_false_iff.mpr c5
          subst c5
          have H1 : (spec_LeastBurst.l0 k1 a0 l1 (wrap64 (x5_1 + 1))) = some r := by rw [if_neg (show ¬ (false = true) by decide)] at H; exact H
          clear H
          have H := H1
          clear H1
          have H' := Aside0.mk H
          clear H
          go_wp2_with (first | ((with_reducible refine gate_callee (f := 23) rfl ?_); refine goesL_ (some 13) rfl rfl Try.func23 (by kernel_rfl) rfl #[.int .i64 a0, .int .i64 x5_1, .slice A1 l1.length c1] rfl (by (try simp only [List.map_toArray, List.map_cons, List.map_nil]); first | done | rfl | (simp only [List.length_drop, List.length_take]; rfl)) ?_; (with_reducible refine (spec_Conforms.calls k1 a0 x5_1 _ _ l1 false _ ?side1 ?side2 A4.out).mono ?_); (case side1 => repeat (first | exact (Kd.C_below HR1.out HB.out) | (with_reducible refine Kd.C_alloc ?_ _) | (with_reducible refine Kd.C_drewN ?_ _) | (with_reducible refine Kd.C_drew ?_))); (case side2 => exact HC1.out); rintro e w7 ⟨rfl, hb⟩; refine ⟨_, rfl, ?_⟩; have n0_ := Aside0.mk (below_step (by repeat (first | (with_reducible first | exact HB.out | apply below_alloc | apply pw_below_drewN | apply below_drew1) | exact HB.out)) hb); clear HB; have HB := n0_; clear n0_; (try clear hb); (try clear hb2); (try clear hk); (try clear hi)))
          go_roundg k1
          case measure => have := HK1.out; omega
          case rel => exact ⟨(wrap64 (x5_1 + 1)), (by first | rfl | (simp; done) | (simp [*]; done)), H', ⟨by have := HK1.out; omega⟩, ⟨by repeat (first | (with_reducible first | exact HB.out | apply below_alloc | apply pw_below_drewN | apply below_drew1) | exact HB.out)⟩⟩
      · rw [if_neg c3] at H
        have c3b0 : decide (x5_1 ≤ 100) = false := decide_eq_false c3
        clear c3
        obtain rfl := Option.some.inj H
        go_wp2
        go_ret
        exact ⟨by first | rfl | (simp [errW_none, errW_some] <;> rfl) | (simp [*, errW_none, errW_some] <;> rfl), by repeat (first | (with_reducible first | exact HB.out | apply below_alloc | apply pw_below_drewN | apply below_drew1) | exact HB.out)⟩

/-! ### impl_LeastBurst: function 29 -/
def impl_LeastBurst.l0 : Nat → Int → List (S35) → Int → Option (Int)
  | 0, _, _, _ => none
  | k + 1, x0, x1, x5 => if x5 ≤ 100 then ((impl_Conforms.f x0 x5 x1).bind fun t334 => (if t334 = true then (some x5) else (impl_LeastBurst.l0 k x0 x1 (wrap64 (x5 + 1))))) else (some (-1))
def impl_LeastBurst.f (k : Nat) (a0 : Int) (l1 : List (S35)) : Option (Int) := impl_LeastBurst.l0 k a0 l1 1
theorem impl_LeastBurst.mono_l : ∀ k, (∀ y0 y1 y2, LeO (impl_LeastBurst.l0 k y0 y1 y2) (impl_LeastBurst.l0 (k + 1) y0 y1 y2))
  | 0 => fun _ _ _ r h => by simp [impl_LeastBurst.l0] at h
  | k + 1 => by
    have ih0 := impl_LeastBurst.mono_l k
    · intro y0 y1 y2
      unfold impl_LeastBurst.l0
      repeat' first
      | (with_reducible exact ih0 _ _ _)
      | (with_reducible exact LeO.refl _)
      | (with_reducible exact LeO.none _)
      | (with_reducible refine LeO.ite ?_ ?_)
      | (with_reducible refine LeO.bind ?_ (fun _ => ?_))
      | exact ih0 _ _ _
      | exact LeO.none _
      | refine LeO.ite ?_ ?_
      | refine LeO.bind ?_ (fun _ => ?_)
theorem impl_LeastBurst.mono : ∀ a0 a1 k, LeO (impl_LeastBurst.f k a0 a1) (impl_LeastBurst.f (k + 1) a0 a1) := by
  intro a0 a1 k
  have ih0 := impl_LeastBurst.mono_l k
  unfold impl_LeastBurst.f
  repeat' first
      | (with_reducible exact ih0 _ _ _)
      | (with_reducible exact LeO.refl _)
      | (with_reducible exact LeO.none _)
      | (with_reducible refine LeO.ite ?_ ?_)
      | (with_reducible refine LeO.bind ?_ (fun _ => ?_))
      | exact ih0 _ _ _
      | exact LeO.none _
      | refine LeO.ite ?_ ?_
      | refine LeO.bind ?_ (fun _ => ?_)
set_option maxHeartbeats 8000000 in
set_option maxRecDepth 100000 in
theorem impl_LeastBurst.calls (k : Nat) (a0 : Int) (A1 : Option Addr) (c1 : Nat) (l1 : List (S35)) (r : Int) (w : World) (hr1 : Kd.C k35 w A1 l1.length l1) (hc1 : l1.length ≤ c1) (h : impl_LeastBurst.f k a0 l1 = some r) :
    Calls Try.prog 29 #[.int .i64 a0, .slice A1 l1.length c1] w fun e w' => e = .returned (.int .i64 r) ∧ Below w.heap.size w w' := by
  have HR1 := Aside0.mk hr1
  have HC1 := Aside0.mk hc1
  clear hr1 hc1
  have HB := Aside0.mk (Below.refl w.heap.size w)
  have H : (impl_LeastBurst.l0 k a0 l1 1) = some r := h
  clear h
  have H' := Aside0.mk H
  clear H
  go_enter Try.func29, Try.ntmps29
  go_wp2
  go_loopg [5] k (fun kq v5 w' => ∃ (x5_1 : Int), v5 = .int .i64 x5_1 ∧ Aside0 (impl_LeastBurst.l0 kq a0 l1 x5_1 = some r) ∧ Aside0 (kq ≤ k) ∧ Aside0 (Below w.heap.size w w'))
  case atStart => exact ⟨(1), (by first | rfl | (simp; done) | (simp [*]; done)), H', ⟨Nat.le_refl _⟩, ⟨by repeat (first | (with_reducible first | exact HB.out | apply below_alloc | apply pw_below_drewN | apply below_drew1) | exact HB.out)⟩⟩
  case round =>
    clear H'
    try clear c1
    try clear c2
    try clear p2
    obtain ⟨x5_1, rfl, HA, HK1, HB⟩ := hrel
    cases gk with
    | zero => exact absurd HA.out (by simp [impl_LeastBurst.l0])
    | succ k1 =>
      have H := HA.out
      clear HA
      simp only [impl_LeastBurst.l0] at H
      by_cases c3 : x5_1 ≤ 100
      · rw [if_pos c3] at H
        have c3b0 : decide (x5_1 ≤ 100) = true := decide_eq_true c3
        clear c3
        replace H := Option.bind_eq_some_iff.mp H
        obtain ⟨t334, A40, H⟩ := H
        replace H : (if t334 = true then (some x5_1) else (impl_LeastBurst.l0 k1 a0 l1 (wrap64 (x5_1 + 1)))) = some r := H
        have A4 := Aside0.mk A40
        clear A40
        by_cases c5 : t334 = true
        · subst c5
          have H1 : (some x5_1) = some r := by rw [if_pos rfl] at H; exact H
          clear H
          have H := H1
          clear H1
          obtain rfl := Option.some.inj H
          go_wp2_with (first | ((with_reducible refine gate_callee (f := 22) rfl ?_); refine goesL_ (some 13) rfl rfl Try.func22 (by kernel_rfl) rfl #[.int .i64 a0, .int .i64 x5_1, .slice A1 l1.length c1] rfl (by (try simp only [List.map_toArray, List.map_cons, List.map_nil]); first | done | rfl | (simp only [List.length_drop, List.length_take]; rfl)) ?_; (with_reducible refine (impl_Conforms.calls a0 x5_1 _ _ l1 true _ ?side1 ?side2 A4.out).mono ?_); (case side1 => repeat (first | exact (Kd.C_below HR1.out HB.out) | (with_reducible refine Kd.C_alloc ?_ _) | (with_reducible refine Kd.C_drewN ?_ _) | (with_reducible refine Kd.C_drew ?_))); (case side2 => exact HC1.out); rintro e w6 ⟨rfl, hb⟩; refine ⟨_, rfl, ?_⟩; have n0_ := Aside0.mk (below_step (by repeat (first | (with_reducible first | exact HB.out | apply below_alloc | apply pw_below_drewN | apply below_drew1) | exact HB.out)) hb); clear HB; have HB := n0_; clear n0_; (try clear hb); (try clear hb2); (try clear hk); (try clear hi)))
          go_ret
          exact ⟨by first | rfl | (simp [errW_none, errW_some] <;> rfl) | (simp [*, errW_none, errW_some] <;> rfl), by repeat (first | (with_reducible first | exact HB.out | apply below_alloc | apply pw_below_drewN | apply below_drew1) | exact HB.out)⟩
        · replace c5 := Bool.eq_false_iff.mpr c5
          subst c5
          have H1 : (impl_LeastBurst.l0 k1 a0 l1 (wrap64 (x5_1 + 1))) = some r := by rw [if_neg (show ¬ (false = true) by decide)] at H; exact H
          clear H
          have H := H1
          clear H1
          have H' := Aside0.mk H
          clear H
          go_wp2_with (first | ((with_reducible refine gate_callee (f := 22) rfl ?_); refine goesL_ (some 13) rfl rfl Try.func22 (by kernel_rfl) rfl #[.int .i64 a0, .int .i64 x5_1, .slice A1 l1.length c1] rfl (by (try simp only [List.map_toArray, List.map_cons, List.map_nil]); first | done | rfl | (simp only [List.length_drop, List.length_take]; rfl)) ?_; (with_reducible refine (impl_Conforms.calls a0 x5_1 _ _ l1 false _ ?side1 ?side2 A4.out).mono ?_); (case side1 => repeat (first | exact (Kd.C_below HR1.out HB.out) | (with_reducible refine Kd.C_alloc ?_ _) | (with_reducible refine Kd.C_drewN ?_ _) | (with_reducible refine Kd.C_drew ?_))); (case side2 => exact HC1.out); rintro e w7 ⟨rfl, hb⟩; refine ⟨_, rfl, ?_⟩; have n0_ := Aside0.mk (below_step (by repeat (first | (with_reducible first | exact HB.out | apply below_alloc | apply pw_below_drewN | apply below_drew1) | exact HB.out)) hb); clear HB; have HB := n0_; clear n0_; (try clear hb); (try clear hb2); (try clear hk); (try clear hi)))
          go_roundg k1
          case measure => have := HK1.out; omega
          case rel => exact ⟨(wrap64 (x5_1 + 1)), (by first | rfl | (simp; done) | (simp [*]; done)), H', ⟨by have := HK1.out; omega⟩, ⟨by repeat (first | (with_reducible first | exact HB.out | apply below_alloc | apply pw_below_drewN | apply below_drew1) | exact HB.out)⟩⟩
      · rw [if_neg c3] at H
        have c3b0 : decide (x5_1 ≤ 100) = false := decide_eq_false c3
        clear c3
        obtain rfl := Option.some.inj H
        go_wp2
        go_ret
        exact ⟨by first | rfl | (simp [errW_none, errW_some] <;> rfl) | (simp [*, errW_none, errW_some] <;> rfl), by repeat (first | (with_reducible first | exact HB.out | apply below_alloc | apply pw_below_drewN | apply below_drew1) | exact HB.out)⟩

-- LIB p14mono
theorem untilT_fit {r b T a t : Int} (h1 : 1 ≤ r ∧ r ≤ 20) (h2 : 1 ≤ b ∧ b ≤ 100) (h3 : 0 ≤ T ∧ T ≤ 100) (h4 : 0 ≤ a) (h5 : a ≤ t) (h6 : t ≤ 100000) : untilT r b T a t = mn b (T + r * (t - a)) ∧ 0 ≤ r * (t - a) ∧ r * (t - a) ≤ 2000000 := by
  have e1 : wrap64 (t - a) = t - a := wrap_eq (by omega) (by omega)
  have g1 : 0 ≤ r * (t - a) := Int.mul_nonneg (by omega) (by omega)
  have g2 : r * (t - a) ≤ 20 * 100000 := Int.mul_le_mul (by omega) (by omega) (by omega) (by omega)
  refine ⟨?_, g1, by omega⟩
  unfold untilT
  rw [e1, wrap_eq (x := r * (t - a)) (by omega) (by omega), wrap_eq (by omega) (by omega)]
theorem mn_eq (a b : Int) : mn a b = if b < a then b else a := rfl
/-- The frames of a list that are right at or behind a time. -/
def fromB (a : Int) : List S35 → Bool
  | [] => true
  | p :: l => (decide (a ≤ p.f0) && pulseB p) && fromB p.f0 l
theorem fromB_of (l : List S35) : ∀ a, l.all pulseB = true → nondec l = true → (∀ p ∈ l.head?, a ≤ p.f0) → fromB a l = true := by
  induction l with
  | nil => intro _ _ _ _; rfl
  | cons p l ih =>
    intro a h1 h2 h3
    rw [List.all_cons, Bool.and_eq_true] at h1
    have h4 : nondec l = true ∧ ∀ q ∈ l.head?, p.f0 ≤ q.f0 := by
      match l, h2 with
      | [], _ => exact ⟨rfl, by simp⟩
      | q :: t, h2 =>
        rw [nondec, Bool.and_eq_true] at h2
        exact ⟨h2.2, by simpa using h2.1⟩
    have h5 : a ≤ p.f0 := h3 p (by simp)
    rw [fromB, decide_eq_true h5, h1.1, ih p.f0 h1.2 h4.1 h4.2]
    rfl
theorem pv_from {l : List S35} (h : pvB l = true) : fromB 0 l = true := by
  unfold pvB at h
  rw [Bool.and_eq_true, Bool.and_eq_true] at h
  refine fromB_of l 0 h.1.1 h.1.2 ?_
  intro p hp
  have hm : p ∈ l := List.mem_of_mem_head? hp
  have := List.all_eq_true.1 h.1.1 p hm
  unfold pulseB at this
  simp at this
  omega
theorem fromB_cons {a : Int} {p : S35} {l : List S35} (h : fromB a (p :: l) = true) : a ≤ p.f0 ∧ 0 ≤ p.f0 ∧ p.f0 ≤ 2000 ∧ 1 ≤ p.f1 ∧ p.f1 ≤ 50 ∧ fromB p.f0 l = true := by
  rw [fromB, pulseB, Bool.and_eq_true] at h
  obtain ⟨h1, h2⟩ := h
  simp at h1
  exact ⟨by omega, by omega, by omega, by omega, by omega, h2⟩
/-- With more tokens and a greater burst what went through goes through. -/
theorem pol_mono {r : Int} (hr : 1 ≤ r ∧ r ≤ 20) {b b' : Int} (hb : 1 ≤ b ∧ b ≤ 100) (hb' : b ≤ b' ∧ b' ≤ 100) (l : List S35) : ∀ (T T' a : Int), 0 ≤ a → 0 ≤ T → T ≤ b → T ≤ T' → T' ≤ b' → fromB a l = true → (polL r b T a l).all id = true → (polL r b' T' a l).all id = true := by
  induction l with
  | nil => intro _ _ _ _ _ _ _ _ _ _; rfl
  | cons p l ih =>
    intro T T' a h0 h1 h2 h3 h4 hf hp
    obtain ⟨f1, f2, f3, f4, f5, f6⟩ := fromB_cons hf
    obtain ⟨u1, u2, u3⟩ := untilT_fit (r := r) (b := b) (T := T) (a := a) (t := p.f0) hr hb (by omega) h0 f1 (by omega)
    obtain ⟨v1, _, _⟩ := untilT_fit (r := r) (b := b') (T := T') (a := a) (t := p.f0) hr (by omega) (by omega) h0 f1 (by omega)
    rw [polL, List.all_cons, Bool.and_eq_true] at hp ⊢
    unfold takeOk takeT at hp ⊢
    rw [u1, mn_eq] at hp
    rw [v1, mn_eq]
    generalize r * (p.f0 - a) = z at *
    obtain ⟨p1, p2⟩ := hp
    have p1' : p.f1 ≤ (if T + z < b then T + z else b) := by simpa using p1
    rw [if_pos p1', wrap_eq (by split <;> omega) (by split <;> omega)] at p2
    have q1 : p.f1 ≤ (if T' + z < b' then T' + z else b') := by
      split at p1' <;> split <;> omega
    refine ⟨by simpa using q1, ?_⟩
    rw [if_pos q1, wrap_eq (by split <;> omega) (by split <;> omega)]
    exact ih _ _ _ f2 (by omega) (by split <;> omega) (by split <;> split <;> omega) (by split <;> omega) f6 p2
theorem conf_mono {r b b' : Int} {l : List S35} (h : confF r b l = true) (h1 : b ≤ b') (h2 : b' ≤ 100) : confF r b' l = true := by
  unfold confF at h ⊢
  rw [Bool.and_eq_true] at h ⊢
  obtain ⟨f1, f2, f3, f4, f5, f6⟩ := fitsB_facts h.1
  have hfit : fitsB r b' l = true := by
    unfold fitsB
    rw [f1]
    simp
    omega
  refine ⟨hfit, ?_⟩
  have h3 := h.2
  unfold polF at h3 ⊢
  rw [if_pos h.1] at h3
  rw [if_pos hfit]
  exact pol_mono ⟨f3, f4⟩ ⟨f5, f6⟩ ⟨h1, h2⟩ l b b' 0 (by omega) (by omega) (by omega) h1 (by omega) (pv_from f1) h3
/-- The least burst of those from one on, over so many. -/
def lbN (r : Int) (l : List S35) : Nat → Int → Int
  | 0, _ => -1
  | n + 1, b => if confF r b l = true then b else lbN r l n (b + 1)
theorem ilb_at (r : Int) (l : List S35) (d : Nat) : ∀ (k : Nat) (b : Int), b + d = 101 → 1 ≤ b → d < k → impl_LeastBurst.l0 k r l b = some (lbN r l d b) := by
  induction d with
  | zero =>
    intro k b h1 h2 hk
    obtain ⟨k, rfl⟩ : ∃ m, k = m + 1 := ⟨k - 1, by omega⟩
    simp only [impl_LeastBurst.l0]
    rw [if_neg (by omega), lbN]
  | succ d ih =>
    intro k b h1 h2 hk
    obtain ⟨k, rfl⟩ : ∃ m, k = m + 1 := ⟨k - 1, by omega⟩
    simp only [impl_LeastBurst.l0]
    rw [if_pos (by omega), iconf_eq, Option.bind_some, wrap_eq (by omega) (by omega), ih k (b + 1) (by omega) (by omega) (by omega), lbN]
    split <;> rfl
theorem slb_at (r : Int) (l : List S35) (hl : l.length ≤ 9223372036854775807) (d : Nat) : ∀ (k : Nat) (b : Int), b + d = 101 → 1 ≤ b → 2 * l.length + 2 + d < k → spec_LeastBurst.l0 k r l b = some (lbN r l d b) := by
  induction d with
  | zero =>
    intro k b h1 h2 hk
    obtain ⟨k, rfl⟩ : ∃ m, k = m + 1 := ⟨k - 1, by omega⟩
    simp only [spec_LeastBurst.l0]
    rw [if_neg (by omega), lbN]
  | succ d ih =>
    intro k b h1 h2 hk
    obtain ⟨k, rfl⟩ : ∃ m, k = m + 1 := ⟨k - 1, by omega⟩
    simp only [spec_LeastBurst.l0]
    rw [if_pos (by omega), sconf_eq r b l hl k (by omega), Option.bind_some, wrap_eq (by omega) (by omega), ih k (b + 1) (by omega) (by omega) (by omega), lbN]
    split <;> rfl
theorem lbN_is (r : Int) (l : List S35) (d : Nat) : ∀ (b : Int), b + d = 101 → 1 ≤ b → (lbN r l d b = -1 ∧ ∀ c, b ≤ c → c ≤ 100 → confF r c l = false) ∨ (b ≤ lbN r l d b ∧ lbN r l d b ≤ 100 ∧ confF r (lbN r l d b) l = true ∧ ∀ c, b ≤ c → c < lbN r l d b → confF r c l = false) := by
  induction d with
  | zero => intro b h1 h2; exact Or.inl ⟨rfl, fun c h3 h4 => by omega⟩
  | succ d ih =>
    intro b h1 h2
    rw [lbN]
    cases hc : confF r b l with
    | true => rw [if_pos rfl]; exact Or.inr ⟨by omega, by omega, hc, fun c h3 h4 => by omega⟩
    | false =>
      rw [if_neg (by decide)]
      rcases ih (b + 1) (by omega) (by omega) with ⟨e, h⟩ | ⟨e1, e2, e3, e4⟩
      · refine Or.inl ⟨e, fun c h3 h4 => ?_⟩
        by_cases hcb : c = b
        · rw [hcb]; exact hc
        · exact h c (by omega) h4
      · refine Or.inr ⟨by omega, e2, e3, fun c h3 h4 => ?_⟩
        by_cases hcb : c = b
        · rw [hcb]; exact hc
        · exact e4 c (by omega) h4

end Go.Proofs.Ytfbicfnokibobaa.PAll

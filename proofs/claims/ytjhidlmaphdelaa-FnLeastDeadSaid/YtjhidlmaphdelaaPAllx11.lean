/- Proved here: contracts of functions of the given program, or lemmas on them, for the laws of this seat. Written by xprint.py, a program of this session, on the ground of the kit's print; parts by hand: wip/x/ext. -/
import Derived.Test.YtjhidlmaphdelaaPAllx0
import Derived.Test.YtjhidlmaphdelaaPAllx2
namespace Go.Proofs.Ytjhidlmaphdelaa.PAll
open Go.RowKit Go.Proofs.YtjhidlmaphdelaaW.PrintWords Go.Proofs.YtjhidlmaphdelaaW.PrintLast Go.Proofs.YtjhidlmaphdelaaW.PrintMore
attribute [local go_sem] max2_int min2_int max_two min_two max_three min_three max_four min_four   -- for this text's walks alone
set_option linter.unusedVariables false
set_option linter.unusedSimpArgs false

/-! ### spec_LeastDead: function 26 -/
def spec_LeastDead.l0 : Nat → List Int → Int → Int → Option (Int)
  | 0, _, _, _ => none
  | k + 1, x0, x1, x5 => if x5 ≤ 50 then ((spec_DownTime.f k x0 x5 x1).bind fun t248 => (if t248 = 0 then (some x5) else (spec_LeastDead.l0 k x0 x1 (wrap64 (x5 + 1))))) else (some (-1))
def spec_LeastDead.f (k : Nat) (l0 : List Int) (a1 : Int) : Option (Int) := spec_LeastDead.l0 k l0 a1 1
theorem spec_LeastDead.mono_l : ∀ k, (∀ y0 y1 y2, LeO (spec_LeastDead.l0 k y0 y1 y2) (spec_LeastDead.l0 (k + 1) y0 y1 y2))
  | 0 => fun _ _ _ r h => by simp [spec_LeastDead.l0] at h
  | k + 1 => by
    have ih0 := spec_LeastDead.mono_l k
    · intro y0 y1 y2
      unfold spec_LeastDead.l0
      repeat' first
      | (with_reducible exact ih0 _ _ _)
      | (with_reducible exact spec_DownTime.mono _ _ _ _)
      | (with_reducible exact LeO.refl _)
      | (with_reducible exact LeO.none _)
      | (with_reducible refine LeO.ite ?_ ?_)
      | (with_reducible refine LeO.bind ?_ (fun _ => ?_))
      | exact ih0 _ _ _
      | exact spec_DownTime.mono _ _ _ _
      | exact LeO.none _
      | refine LeO.ite ?_ ?_
      | refine LeO.bind ?_ (fun _ => ?_)
theorem spec_LeastDead.mono : ∀ a0 a1 k, LeO (spec_LeastDead.f k a0 a1) (spec_LeastDead.f (k + 1) a0 a1) := by
  intro a0 a1 k
  have ih0 := spec_LeastDead.mono_l k
  unfold spec_LeastDead.f
  repeat' first
      | (with_reducible exact ih0 _ _ _)
      | (with_reducible exact spec_DownTime.mono _ _ _ _)
      | (with_reducible exact LeO.refl _)
      | (with_reducible exact LeO.none _)
      | (with_reducible refine LeO.ite ?_ ?_)
      | (with_reducible refine LeO.bind ?_ (fun _ => ?_))
      | exact ih0 _ _ _
      | exact spec_DownTime.mono _ _ _ _
      | exact LeO.none _
      | refine LeO.ite ?_ ?_
      | refine LeO.bind ?_ (fun _ => ?_)
set_option maxHeartbeats 8000000 in
set_option maxRecDepth 100000 in
theorem spec_LeastDead.calls (k : Nat) (A0 : Option Addr) (c0 : Nat) (l0 : List Int) (a1 : Int) (r : Int) (w : World) (hr0 : Kd.C (Kd.int .i64) w A0 l0.length l0) (hc0 : l0.length ≤ c0) (h : spec_LeastDead.f k l0 a1 = some r) :
    Calls Try.prog 26 #[.slice A0 l0.length c0, .int .i64 a1] w fun e w' => e = .returned (.int .i64 r) ∧ Drawn0 w w' := by
  have HR0 := Aside0.mk hr0
  have HC0 := Aside0.mk hc0
  clear hr0 hc0
  have H : (spec_LeastDead.l0 k l0 a1 1) = some r := h
  clear h
  have H' := Aside0.mk H
  clear H
  go_enter Try.func26, Try.ntmps26
  go_wp2
  go_loopg [5] k (fun kq v5 w' => ∃ (x5_1 : Int), v5 = .int .i64 x5_1 ∧ Aside0 (spec_LeastDead.l0 kq l0 a1 x5_1 = some r) ∧ Aside0 (kq ≤ k) ∧ Drawn0 w w')
  case atStart => exact ⟨(1), (by first | rfl | (simp; done) | (simp [*]; done)), H', ⟨Nat.le_refl _⟩, by repeat (first | exact Drawn0.refl _ | apply Drawn0.step)⟩
  case round =>
    clear H'
    try clear c2
    try clear p2
    obtain ⟨x5_1, rfl, HA, HK1, ⟨m1, rfl⟩⟩ := hrel
    cases gk with
    | zero => exact absurd HA.out (by simp [spec_LeastDead.l0])
    | succ k1 =>
      have H := HA.out
      clear HA
      simp only [spec_LeastDead.l0] at H
      by_cases c3 : x5_1 ≤ 50
      · rw [if_pos c3] at H
        have c3b0 : decide (x5_1 ≤ 50) = true := decide_eq_true c3
        clear c3
        replace H := Option.bind_eq_some_iff.mp H
        obtain ⟨t248, A40, H⟩ := H
        replace H : (if t248 = 0 then (some x5_1) else (spec_LeastDead.l0 k1 l0 a1 (wrap64 (x5_1 + 1)))) = some r := H
        have A4 := Aside0.mk A40
        clear A40
        by_cases c5 : t248 = 0
        · rw [if_pos c5] at H
          have c5b0 : (t248 == 0) = true := beq_iff_eq.mpr c5
          have c5b1 : (t248 != 0) = false := bne_eq_false_iff_eq.mpr c5
          clear c5
          obtain rfl := Option.some.inj H
          go_wp2_with (first | ((with_reducible refine gate_callee (f := 15) rfl ?_); refine goesL_ (some 13) rfl rfl Try.func15 (by kernel_rfl) rfl #[.slice A0 l0.length c0, .int .i64 x5_1, .int .i64 a1] rfl (by (try simp only [List.map_toArray, List.map_cons, List.map_nil]); first | done | rfl | (simp only [List.length_drop, List.length_take]; rfl)) ?_; (with_reducible refine (spec_DownTime.calls k1 _ _ l0 x5_1 a1 t248 _ ?side1 ?side2 A4.out).mono ?_); (case side1 => repeat (first | exact HR0.out | (with_reducible refine Kd.C_alloc ?_ _) | (with_reducible refine Kd.C_drewN ?_ _) | (with_reducible refine Kd.C_drew ?_))); (case side2 => exact HC0.out); rintro e w' ⟨rfl, ⟨nd, rfl⟩⟩; refine ⟨_, rfl, ?_⟩))
          go_ret
          exact ⟨by first | rfl | (simp; done) | (simp [*]; done), by repeat (first | exact Drawn0.refl _ | apply Drawn0.step)⟩
        · rw [if_neg c5] at H
          have c5b0 : (t248 == 0) = false := beq_eq_false_iff_ne.mpr c5
          have c5b1 : (t248 != 0) = true := bne_iff_ne.mpr c5
          have H' := Aside0.mk H
          clear H
          go_wp2_with (first | ((with_reducible refine gate_callee (f := 15) rfl ?_); refine goesL_ (some 13) rfl rfl Try.func15 (by kernel_rfl) rfl #[.slice A0 l0.length c0, .int .i64 x5_1, .int .i64 a1] rfl (by (try simp only [List.map_toArray, List.map_cons, List.map_nil]); first | done | rfl | (simp only [List.length_drop, List.length_take]; rfl)) ?_; (with_reducible refine (spec_DownTime.calls k1 _ _ l0 x5_1 a1 t248 _ ?side1 ?side2 A4.out).mono ?_); (case side1 => repeat (first | exact HR0.out | (with_reducible refine Kd.C_alloc ?_ _) | (with_reducible refine Kd.C_drewN ?_ _) | (with_reducible refine Kd.C_drew ?_))); (case side2 => exact HC0.out); rintro e w' ⟨rfl, ⟨nd, rfl⟩⟩; refine ⟨_, rfl, ?_⟩))
          go_roundg k1
          case measure => have := HK1.out; omega
          case rel => exact ⟨(wrap64 (x5_1 + 1)), (by first | rfl | (simp; done) | (simp [*]; done)), H', ⟨by have := HK1.out; omega⟩, by repeat (first | exact Drawn0.refl _ | apply Drawn0.step)⟩
      · rw [if_neg c3] at H
        have c3b0 : decide (x5_1 ≤ 50) = false := decide_eq_false c3
        clear c3
        obtain rfl := Option.some.inj H
        go_wp2
        go_ret
        exact ⟨by first | rfl | (simp; done) | (simp [*]; done), by repeat (first | exact Drawn0.refl _ | apply Drawn0.step)⟩

/-! ### impl_LeastDead: function 27 -/
def impl_LeastDead.l0 : Nat → List Int → Int → Int → Option (Int)
  | 0, _, _, _ => none
  | k + 1, x0, x1, x5 => if x5 ≤ 50 then ((impl_DownTime.f k x0 x5 x1).bind fun t249 => (if t249 = 0 then (some x5) else (impl_LeastDead.l0 k x0 x1 (wrap64 (x5 + 1))))) else (some (-1))
def impl_LeastDead.f (k : Nat) (l0 : List Int) (a1 : Int) : Option (Int) := impl_LeastDead.l0 k l0 a1 1
theorem impl_LeastDead.mono_l : ∀ k, (∀ y0 y1 y2, LeO (impl_LeastDead.l0 k y0 y1 y2) (impl_LeastDead.l0 (k + 1) y0 y1 y2))
  | 0 => fun _ _ _ r h => by simp [impl_LeastDead.l0] at h
  | k + 1 => by
    have ih0 := impl_LeastDead.mono_l k
    · intro y0 y1 y2
      unfold impl_LeastDead.l0
      repeat' first
      | (with_reducible exact ih0 _ _ _)
      | (with_reducible exact impl_DownTime.mono _ _ _ _)
      | (with_reducible exact LeO.refl _)
      | (with_reducible exact LeO.none _)
      | (with_reducible refine LeO.ite ?_ ?_)
      | (with_reducible refine LeO.bind ?_ (fun _ => ?_))
      | exact ih0 _ _ _
      | exact impl_DownTime.mono _ _ _ _
      | exact LeO.none _
      | refine LeO.ite ?_ ?_
      | refine LeO.bind ?_ (fun _ => ?_)
theorem impl_LeastDead.mono : ∀ a0 a1 k, LeO (impl_LeastDead.f k a0 a1) (impl_LeastDead.f (k + 1) a0 a1) := by
  intro a0 a1 k
  have ih0 := impl_LeastDead.mono_l k
  unfold impl_LeastDead.f
  repeat' first
      | (with_reducible exact ih0 _ _ _)
      | (with_reducible exact impl_DownTime.mono _ _ _ _)
      | (with_reducible exact LeO.refl _)
      | (with_reducible exact LeO.none _)
      | (with_reducible refine LeO.ite ?_ ?_)
      | (with_reducible refine LeO.bind ?_ (fun _ => ?_))
      | exact ih0 _ _ _
      | exact impl_DownTime.mono _ _ _ _
      | exact LeO.none _
      | refine LeO.ite ?_ ?_
      | refine LeO.bind ?_ (fun _ => ?_)
set_option maxHeartbeats 8000000 in
set_option maxRecDepth 100000 in
theorem impl_LeastDead.calls (k : Nat) (A0 : Option Addr) (c0 : Nat) (l0 : List Int) (a1 : Int) (r : Int) (w : World) (hr0 : Kd.C (Kd.int .i64) w A0 l0.length l0) (hc0 : l0.length ≤ c0) (h : impl_LeastDead.f k l0 a1 = some r) :
    Calls Try.prog 27 #[.slice A0 l0.length c0, .int .i64 a1] w fun e w' => e = .returned (.int .i64 r) ∧ Below w.heap.size w w' := by
  have HR0 := Aside0.mk hr0
  have HC0 := Aside0.mk hc0
  clear hr0 hc0
  have HB := Aside0.mk (Below.refl w.heap.size w)
  have H : (impl_LeastDead.l0 k l0 a1 1) = some r := h
  clear h
  have H' := Aside0.mk H
  clear H
  go_enter Try.func27, Try.ntmps27
  go_wp2
  go_loopg [5] k (fun kq v5 w' => ∃ (x5_1 : Int), v5 = .int .i64 x5_1 ∧ Aside0 (impl_LeastDead.l0 kq l0 a1 x5_1 = some r) ∧ Aside0 (kq ≤ k) ∧ Aside0 (Below w.heap.size w w'))
  case atStart => exact ⟨(1), (by first | rfl | (simp; done) | (simp [*]; done)), H', ⟨Nat.le_refl _⟩, ⟨by repeat (first | (with_reducible first | exact HB.out | apply below_alloc | apply pw_below_drewN | apply below_drew1) | exact HB.out)⟩⟩
  case round =>
    clear H'
    try clear c2
    try clear p2
    obtain ⟨x5_1, rfl, HA, HK1, HB⟩ := hrel
    cases gk with
    | zero => exact absurd HA.out (by simp [impl_LeastDead.l0])
    | succ k1 =>
      have H := HA.out
      clear HA
      simp only [impl_LeastDead.l0] at H
      by_cases c3 : x5_1 ≤ 50
      · rw [if_pos c3] at H
        have c3b0 : decide (x5_1 ≤ 50) = true := decide_eq_true c3
        clear c3
        replace H := Option.bind_eq_some_iff.mp H
        obtain ⟨t249, A40, H⟩ := H
        replace H : (if t249 = 0 then (some x5_1) else (impl_LeastDead.l0 k1 l0 a1 (wrap64 (x5_1 + 1)))) = some r := H
        have A4 := Aside0.mk A40
        clear A40
        by_cases c5 : t249 = 0
        · rw [if_pos c5] at H
          have c5b0 : (t249 == 0) = true := beq_iff_eq.mpr c5
          have c5b1 : (t249 != 0) = false := bne_eq_false_iff_eq.mpr c5
          clear c5
          obtain rfl := Option.some.inj H
          go_wp2_with (first | ((with_reducible refine gate_callee (f := 17) rfl ?_); refine goesL_ (some 13) rfl rfl Try.func17 (by kernel_rfl) rfl #[.slice A0 l0.length c0, .int .i64 x5_1, .int .i64 a1] rfl (by (try simp only [List.map_toArray, List.map_cons, List.map_nil]); first | done | rfl | (simp only [List.length_drop, List.length_take]; rfl)) ?_; (with_reducible refine (impl_DownTime.calls k1 _ _ l0 x5_1 a1 t249 _ ?side1 ?side2 A4.out).mono ?_); (case side1 => repeat (first | exact (Kd.C_below HR0.out HB.out) | (with_reducible refine Kd.C_alloc ?_ _) | (with_reducible refine Kd.C_drewN ?_ _) | (with_reducible refine Kd.C_drew ?_))); (case side2 => exact HC0.out); rintro e w6 ⟨rfl, hb⟩; refine ⟨_, rfl, ?_⟩; have n0_ := Aside0.mk (below_step (by repeat (first | (with_reducible first | exact HB.out | apply below_alloc | apply pw_below_drewN | apply below_drew1) | exact HB.out)) hb); clear HB; have HB := n0_; clear n0_; (try clear hb); (try clear hb2); (try clear hk); (try clear hi)))
          go_ret
          exact ⟨by first | rfl | (simp [errW_none, errW_some] <;> rfl) | (simp [*, errW_none, errW_some] <;> rfl), by repeat (first | (with_reducible first | exact HB.out | apply below_alloc | apply pw_below_drewN | apply below_drew1) | exact HB.out)⟩
        · rw [if_neg c5] at H
          have c5b0 : (t249 == 0) = false := beq_eq_false_iff_ne.mpr c5
          have c5b1 : (t249 != 0) = true := bne_iff_ne.mpr c5
          have H' := Aside0.mk H
          clear H
          go_wp2_with (first | ((with_reducible refine gate_callee (f := 17) rfl ?_); refine goesL_ (some 13) rfl rfl Try.func17 (by kernel_rfl) rfl #[.slice A0 l0.length c0, .int .i64 x5_1, .int .i64 a1] rfl (by (try simp only [List.map_toArray, List.map_cons, List.map_nil]); first | done | rfl | (simp only [List.length_drop, List.length_take]; rfl)) ?_; (with_reducible refine (impl_DownTime.calls k1 _ _ l0 x5_1 a1 t249 _ ?side1 ?side2 A4.out).mono ?_); (case side1 => repeat (first | exact (Kd.C_below HR0.out HB.out) | (with_reducible refine Kd.C_alloc ?_ _) | (with_reducible refine Kd.C_drewN ?_ _) | (with_reducible refine Kd.C_drew ?_))); (case side2 => exact HC0.out); rintro e w7 ⟨rfl, hb⟩; refine ⟨_, rfl, ?_⟩; have n0_ := Aside0.mk (below_step (by repeat (first | (with_reducible first | exact HB.out | apply below_alloc | apply pw_below_drewN | apply below_drew1) | exact HB.out)) hb); clear HB; have HB := n0_; clear n0_; (try clear hb); (try clear hb2); (try clear hk); (try clear hi)))
          go_roundg k1
          case measure => have := HK1.out; omega
          case rel => exact ⟨(wrap64 (x5_1 + 1)), (by first | rfl | (simp; done) | (simp [*]; done)), H', ⟨by have := HK1.out; omega⟩, ⟨by repeat (first | (with_reducible first | exact HB.out | apply below_alloc | apply pw_below_drewN | apply below_drew1) | exact HB.out)⟩⟩
      · rw [if_neg c3] at H
        have c3b0 : decide (x5_1 ≤ 50) = false := decide_eq_false c3
        clear c3
        obtain rfl := Option.some.inj H
        go_wp2
        go_ret
        exact ⟨by first | rfl | (simp [errW_none, errW_some] <;> rfl) | (simp [*, errW_none, errW_some] <;> rfl), by repeat (first | (with_reducible first | exact HB.out | apply below_alloc | apply pw_below_drewN | apply below_drew1) | exact HB.out)⟩

-- LIB p18least
/-- The least patience from d on, n of them, with which it is always heard; -1. -/
def leastN (l : List Int) (t : Int) : Nat → Nat → Int
  | _, 0 => -1
  | d, n + 1 => if downF l d t = 0 then (d : Int) else leastN l t (d + 1) n
theorem ileast_at (l : List Int) (t : Int) (n : Nat) : ∀ (k d : Nat), d + n = 51 → n + 2003 < k → impl_LeastDead.l0 k l t d = some (leastN l t d n) := by
  induction n with
  | zero =>
    intro k d h hk
    obtain ⟨k, rfl⟩ : ∃ m, k = m + 1 := ⟨k - 1, by omega⟩
    simp only [impl_LeastDead.l0]
    rw [if_neg (by omega)]
    rfl
  | succ n ih =>
    intro k d h hk
    obtain ⟨k, rfl⟩ : ∃ m, k = m + 1 := ⟨k - 1, by omega⟩
    simp only [impl_LeastDead.l0]
    rw [if_pos (by omega), idown_eq l d t k (by omega), Option.bind_some, wrap_succ (show d < 51 by omega) (by omega), ih k (d + 1) (by omega) (by omega)]
    have e : leastN l t d (n + 1) = if downF l d t = 0 then (d : Int) else leastN l t (d + 1) n := rfl
    rw [e]
    by_cases c : downF l d t = 0
    · rw [if_pos c, if_pos c]
    · rw [if_neg c, if_neg c]
theorem sleast_at (l : List Int) (t : Int) (hl : l.length ≤ 9223372036854775807) (n : Nat) : ∀ (k d : Nat), d + n = 51 → n + 2101 < k → l.length + n < k → spec_LeastDead.l0 k l t d = some (leastN l t d n) := by
  induction n with
  | zero =>
    intro k d h hk _
    obtain ⟨k, rfl⟩ : ∃ m, k = m + 1 := ⟨k - 1, by omega⟩
    simp only [spec_LeastDead.l0]
    rw [if_neg (by omega)]
    rfl
  | succ n ih =>
    intro k d h hk hk2
    obtain ⟨k, rfl⟩ : ∃ m, k = m + 1 := ⟨k - 1, by omega⟩
    simp only [spec_LeastDead.l0]
    rw [if_pos (by omega), sdown_eq l d t hl k (by omega) (by omega), Option.bind_some, wrap_succ (show d < 51 by omega) (by omega), ih k (d + 1) (by omega) (by omega) (by omega)]
    have e : leastN l t d (n + 1) = if downF l d t = 0 then (d : Int) else leastN l t (d + 1) n := rfl
    rw [e]
    by_cases c : downF l d t = 0
    · rw [if_pos c, if_pos c]
    · rw [if_neg c, if_neg c]
theorem ileast_eq (l : List Int) (t : Int) (k : Nat) (hk : 2100 < k) : impl_LeastDead.f k l t = some (leastN l t 1 50) := ileast_at l t 50 k 1 (by omega) (by omega)
theorem sleast_eq (l : List Int) (t : Int) (hl : l.length ≤ 9223372036854775807) (k : Nat) (hk : 2200 < k) (hk2 : l.length + 60 < k) : spec_LeastDead.f k l t = some (leastN l t 1 50) := sleast_at l t hl 50 k 1 (by omega) (by omega) (by omega)
theorem leastN_is (l : List Int) (t : Int) (n : Nat) : ∀ d, (leastN l t d n = -1 ∧ ∀ e, d ≤ e → e < d + n → downF l e t ≠ 0) ∨ ∃ e : Nat, leastN l t d n = e ∧ d ≤ e ∧ e < d + n ∧ downF l e t = 0 ∧ ∀ e', d ≤ e' → e' < e → downF l e' t ≠ 0 := by
  induction n with
  | zero => exact fun d => .inl ⟨rfl, fun e h1 h2 => absurd h2 (by omega)⟩
  | succ n ih =>
    intro d
    have e : leastN l t d (n + 1) = if downF l d t = 0 then (d : Int) else leastN l t (d + 1) n := rfl
    rw [e]
    by_cases c : downF l d t = 0
    · rw [if_pos c]
      exact .inr ⟨d, rfl, Nat.le_refl _, by omega, c, fun e' h1 h2 => absurd h2 (by omega)⟩
    · rw [if_neg c]
      rcases ih (d + 1) with ⟨h1, h2⟩ | ⟨e', h1, h2, h3, h4, h5⟩
      · refine .inl ⟨h1, fun e h3 h4 => ?_⟩
        rcases Nat.eq_or_lt_of_le h3 with rfl | h3
        · exact c
        · exact h2 e (by omega) (by omega)
      · refine .inr ⟨e', h1, by omega, by omega, h4, fun e h6 h7 => ?_⟩
        rcases Nat.eq_or_lt_of_le h6 with rfl | h6
        · exact c
        · exact h5 e (by omega) h7

end Go.Proofs.Ytjhidlmaphdelaa.PAll

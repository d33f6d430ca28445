/- Proved here: contracts of functions of the given program, or lemmas on them, for the laws of this seat. Written by xprint.py, a program of this session, on the ground of the kit's print; parts by hand: wip/x/ext. -/
import Derived.Test.YtdnehickciaiiaaPAllx0
import Derived.Test.YtdnehickciaiiaaPAllx2
import Derived.Test.YtdnehickciaiiaaPAllx3
namespace Go.Proofs.Ytdnehickciaiiaa.PAll
open Go.RowKit Go.Proofs.YtdnehickciaiiaaW.PrintWords Go.Proofs.YtdnehickciaiiaaW.PrintLast Go.Proofs.YtdnehickciaiiaaW.PrintMore
attribute [local go_sem] max2_int min2_int max_two min_two max_three min_three max_four min_four   -- for this text's walks alone
set_option linter.unusedVariables false
set_option linter.unusedSimpArgs false

/-! ### spec_PathIn: function 29 -/
def spec_PathIn.j0 : Nat → Int → Int → Bool → Int → Int → List Int → Option (List Int)
 | 0, _, _, _, _, _, _ => none
 | k + 1, x1, x2, x26, x364000, x364001, x364002 => if x26 = true then (some (([] : List Int))) else ((spec_l17Walk.f k x364000 x364001 x364002 x1 x2 1).bind fun t370 => (if (t370.length : Int) = 0 then ((spec_l17Walk.f k x364000 x364001 x364002 x1 x2 (-1)).bind fun t373 => (some t373)) else (some t370)))
def spec_PathIn.f (k : Nat) (a0_0 : Int) (a0_1 : Int) (l0_2 : List Int) (a1 : Int) (a2 : Int) : Option (List Int) := (spec_RingValid.f k a0_0 a0_1 l0_2).bind fun t364 => (if t364 = true then ((spec_l1In.f a1 0 (wrap64 (a0_0 - 1))).bind fun t365 => (if t365 = true then ((spec_l1In.f a2 0 (wrap64 (a0_0 - 1))).bind fun t366 => (spec_PathIn.j0 k a1 a2 (!t366) a0_0 a0_1 l0_2)) else (spec_PathIn.j0 k a1 a2 true a0_0 a0_1 l0_2))) else (spec_PathIn.j0 k a1 a2 true a0_0 a0_1 l0_2))
theorem spec_PathIn.mono_l : ∀ k, (∀ y0 y1 y2 y3 y4 y5, LeO (spec_PathIn.j0 k y0 y1 y2 y3 y4 y5) (spec_PathIn.j0 (k + 1) y0 y1 y2 y3 y4 y5))
 | 0 => fun _ _ _ _ _ _ r h => by simp [spec_PathIn.j0] at h
 | k + 1 => by
  have ih0 := spec_PathIn.mono_l k
  ·intro y0 y1 y2 y3 y4 y5
   unfold spec_PathIn.j0
   repeat' first
   | (with_reducible exact ih0 _ _ _ _ _ _)
   | (with_reducible exact spec_RingValid.mono _ _ _ _)
   | (with_reducible exact spec_l17Walk.mono _ _ _ _ _ _ _)
   | (with_reducible exact LeO.refl _)
   | (with_reducible exact LeO.none _)
   | (with_reducible refine LeO.ite ?_ ?_)
   | (with_reducible refine LeO.bind ?_ (fun _ => ?_))
   | exact ih0 _ _ _ _ _ _
   | exact spec_RingValid.mono _ _ _ _
   | exact spec_l17Walk.mono _ _ _ _ _ _ _
   | exact LeO.none _
   | refine LeO.ite ?_ ?_
   | refine LeO.bind ?_ (fun _ => ?_)
theorem spec_PathIn.mono : ∀ a0 a1 a2 a3 a4 k, LeO (spec_PathIn.f k a0 a1 a2 a3 a4) (spec_PathIn.f (k + 1) a0 a1 a2 a3 a4) := by
 intro a0 a1 a2 a3 a4 k
 have ih0 := spec_PathIn.mono_l k
 unfold spec_PathIn.f
 repeat' first
   | (with_reducible exact ih0 _ _ _ _ _ _)
   | (with_reducible exact spec_RingValid.mono _ _ _ _)
   | (with_reducible exact spec_l17Walk.mono _ _ _ _ _ _ _)
   | (with_reducible exact LeO.refl _)
   | (with_reducible exact LeO.none _)
   | (with_reducible refine LeO.ite ?_ ?_)
   | (with_reducible refine LeO.bind ?_ (fun _ => ?_))
   | exact ih0 _ _ _ _ _ _
   | exact spec_RingValid.mono _ _ _ _
   | exact spec_l17Walk.mono _ _ _ _ _ _ _
   | exact LeO.none _
   | refine LeO.ite ?_ ?_
   | refine LeO.bind ?_ (fun _ => ?_)
set_option maxHeartbeats 8000000 in
set_option maxRecDepth 100000 in
theorem spec_PathIn.calls (k : Nat) (a0_0 : Int) (a0_1 : Int) (A0_2 : Option Addr) (c0_2 : Nat) (l0_2 : List Int) (a1 : Int) (a2 : Int) (r : List Int) (w : World) (hr0_2 : Kd.C (Kd.int .i64) w A0_2 l0_2.length l0_2) (hc0_2 : l0_2.length ≤ c0_2) (h : spec_PathIn.f k a0_0 a0_1 l0_2 a1 a2 = some r) :
  Calls Try.prog 29 #[.agg #[.int .i64 a0_0, .int .i64 a0_1, .slice A0_2 l0_2.length c0_2], .int .i64 a1, .int .i64 a2] w fun e w' => ∃ v0_ : Value, e = .returned (v0_) ∧ Kd.R (Kd.int .i64) 3 w' w.heap.size (fun _ => True) v0_ r ∧ Below w.heap.size w w' := by
 have hu25 := Try.underlying25
 have HR0_2 := Aside0.mk hr0_2
 have HC0_2 := Aside0.mk hc0_2
 clear hr0_2 hc0_2
 have HB := Aside0.mk (Below.refl w.heap.size w)
 have H : ((spec_RingValid.f k a0_0 a0_1 l0_2).bind fun t364 => (if t364 = true then ((spec_l1In.f a1 0 (wrap64 (a0_0 - 1))).bind fun t365 => (if t365 = true then ((spec_l1In.f a2 0 (wrap64 (a0_0 - 1))).bind fun t366 => (spec_PathIn.j0 k a1 a2 (!t366) a0_0 a0_1 l0_2)) else (spec_PathIn.j0 k a1 a2 true a0_0 a0_1 l0_2))) else (spec_PathIn.j0 k a1 a2 true a0_0 a0_1 l0_2))) = some r := h
 clear h
 have HC4 := Aside0.mk H
 clear H
 go_enter Try.func29, Try.ntmps29
 go_upto_region 1 with (first | ((with_reducible refine gate_dst (N := 3) rfl ?_); refine box_event ?hg (N := 3) ?hd (cs := #[.int .i64 a0_0, .int .i64 a0_1, .slice A0_2 l0_2.length c0_2]) (t := 25) ?hr ?_; (case hd => rfl); (case hg => rfl); (case hr => first | (go_simp; done) | (go_simp; rfl)); intro gb363 hg w5 hbox hb; have n0_ := Aside0.mk (below_step (by repeat (first | (with_reducible first | exact HB.out | apply below_alloc | apply pw_below_drewN | apply below_drew1) | exact HB.out)) hb); have n1_ := Aside0.mk (hbox); have n2_ := Aside0.mk ((by rw [hg]; exact (below_size (by repeat (first | (with_reducible first | exact HB.out | apply below_alloc | apply pw_below_drewN | apply below_drew1) | exact HB.out))) : w.heap.size ≤ gb363)); have n3_ := Aside0.mk ((by rw [hg]; exact (below_size (by repeat (first | (with_reducible first | exact HB.out | apply below_alloc | apply pw_below_drewN | apply below_drew1) | exact HB.out))) : w.heap.size ≤ gb363)); clear HB; have HB := n0_; have BK363 := n1_; have GW363 := n2_; have GE363 := n3_; clear n0_ n1_ n2_ n3_; clear hb hbox hg))
 (try simp only [Act.put, List.setIfInBounds_toArray, List.set_cons_zero, List.set_cons_succ])
 go_cut [26] (fun v26 wc => ∃ (kq : Nat) (x26_3 : Bool), v26 = .bool x26_3 ∧ Aside0 (spec_PathIn.j0 kq a1 a2 x26_3 a0_0 a0_1 l0_2 = some r) ∧ Aside0 (kq ≤ k) ∧ Aside0 (wc.heap[gb363]? = some (.cells #[.int .i64 a0_0, .int .i64 a0_1, (.slice A0_2 l0_2.length c0_2)] 25 (0, 0))) ∧ Aside0 (Below w.heap.size w wc))
 case first =>
  have H := HC4.out
  clear HC4
  replace H := Option.bind_eq_some_iff.mp H
  obtain ⟨t364, A60, H⟩ := H
  replace H : (if t364 = true then ((spec_l1In.f a1 0 (wrap64 (a0_0 - 1))).bind fun t365 => (if t365 = true then ((spec_l1In.f a2 0 (wrap64 (a0_0 - 1))).bind fun t366 => (spec_PathIn.j0 k a1 a2 (!t366) a0_0 a0_1 l0_2)) else (spec_PathIn.j0 k a1 a2 true a0_0 a0_1 l0_2))) else (spec_PathIn.j0 k a1 a2 true a0_0 a0_1 l0_2)) = some r := H
  have A6 := Aside0.mk A60
  clear A60
  by_cases c7 : t364 = true
  ·subst c7
   have H1 : ((spec_l1In.f a1 0 (wrap64 (a0_0 - 1))).bind fun t365 => (if t365 = true then ((spec_l1In.f a2 0 (wrap64 (a0_0 - 1))).bind fun t366 => (spec_PathIn.j0 k a1 a2 (!t366) a0_0 a0_1 l0_2)) else (spec_PathIn.j0 k a1 a2 true a0_0 a0_1 l0_2))) = some r := by rw [if_pos rfl] at H; exact H
   clear H
   have H := H1
   clear H1
   replace H := Option.bind_eq_some_iff.mp H
   obtain ⟨t365, A80, H⟩ := H
   replace H : (if t365 = true then ((spec_l1In.f a2 0 (wrap64 (a0_0 - 1))).bind fun t366 => (spec_PathIn.j0 k a1 a2 (!t366) a0_0 a0_1 l0_2)) else (spec_PathIn.j0 k a1 a2 true a0_0 a0_1 l0_2)) = some r := H
   have A8 := Aside0.mk A80
   clear A80
   by_cases c9 : t365 = true
   ·subst c9
    have H1 : ((spec_l1In.f a2 0 (wrap64 (a0_0 - 1))).bind fun t366 => (spec_PathIn.j0 k a1 a2 (!t366) a0_0 a0_1 l0_2)) = some r := by rw [if_pos rfl] at H; exact H
    clear H
    have H := H1
    clear H1
    replace H := Option.bind_eq_some_iff.mp H
    obtain ⟨t366, A100, H⟩ := H
    replace H : (spec_PathIn.j0 k a1 a2 (!t366) a0_0 a0_1 l0_2) = some r := H
    have A10 := Aside0.mk A100
    clear A100
    have H' := Aside0.mk H
    clear H
    have hcz11_0 : w5.cell? ⟨gb363, 0, none⟩ = some (.int .i64 a0_0) := (blk_cell BK363.out 0).trans rfl
    have hcz11_1 : w5.cell? ⟨gb363, 1, none⟩ = some (.int .i64 a0_1) := (blk_cell BK363.out 1).trans rfl
    have hcz11_2 : w5.cell? ⟨gb363, 2, none⟩ = some (.slice A0_2 l0_2.length c0_2) := (blk_cell BK363.out 2).trans rfl
    have hfz11_0 := blk_frozen BK363.out 0
    have hfz11_1 := blk_frozen BK363.out 1
    have hfz11_2 := blk_frozen BK363.out 2
    go_wp2_with (first | ((with_reducible refine gate_callee (f := 18) rfl ?_); refine goesL_ (some 9) rfl rfl Try.func18 (by kernel_rfl) rfl #[.agg #[.int .i64 a0_0, .int .i64 a0_1, .slice A0_2 l0_2.length c0_2]] rfl (by (try simp only [List.map_toArray, List.map_cons, List.map_nil]); first | done | rfl | (simp only [List.length_drop, List.length_take]; rfl)) ?_; (with_reducible refine (spec_RingValid.calls k a0_0 a0_1 _ _ l0_2 true _ ?side1 ?side2 A6.out).mono ?_); (case side1 => repeat (first | exact (Kd.C_below HR0_2.out HB.out) | (with_reducible refine Kd.C_alloc ?_ _) | (with_reducible refine Kd.C_drewN ?_ _) | (with_reducible refine Kd.C_drew ?_))); (case side2 => exact HC0_2.out); rintro e w12 ⟨rfl, hb⟩; refine ⟨_, rfl, ?_⟩; have n0_ := Aside0.mk (blk_below (g := gb363) (o := .cells #[.int .i64 a0_0, .int .i64 a0_1, .slice A0_2 l0_2.length c0_2] 25 (0, 0)) (by (with_reducible repeat (first | refine blk_drewN ?_ _ | refine blk_drew ?_ | refine blk_alloc ?_ _)); exact BK363.out) hb); have n1_ := Aside0.mk (below_step (by repeat (first | (with_reducible first | exact HB.out | apply below_alloc | apply pw_below_drewN | apply below_drew1 | refine below_set ?_ GE363.out) | exact HB.out)) hb); clear BK363; clear HB; have BK363 := n0_; have HB := n1_; clear n0_ n1_; (try clear hb); (try clear hb2); (try clear hk); (try clear hi); have hcz13_0 : w12.cell? ⟨gb363, 0, none⟩ = some (.int .i64 a0_0) := (blk_cell BK363.out 0).trans rfl; have hcz13_1 : w12.cell? ⟨gb363, 1, none⟩ = some (.int .i64 a0_1) := (blk_cell BK363.out 1).trans rfl; have hcz13_2 : w12.cell? ⟨gb363, 2, none⟩ = some (.slice A0_2 l0_2.length c0_2) := (blk_cell BK363.out 2).trans rfl; have hfz13_0 := blk_frozen BK363.out 0; have hfz13_1 := blk_frozen BK363.out 1; have hfz13_2 := blk_frozen BK363.out 2) | (go_at_call 48; (with_reducible refine (spec_l1In.calls a1 0 (wrap64 (a0_0 - 1)) true _ A8.out).mono ?_); rintro e w' ⟨rfl, ⟨nd, rfl⟩⟩) | (go_at_call 48; (with_reducible refine (spec_l1In.calls a2 0 (wrap64 (a0_0 - 1)) t366 _ A10.out).mono ?_); rintro e w' ⟨rfl, ⟨nd, rfl⟩⟩))
    go_meet
    case rel => exact ⟨_, (!t366), (by first | rfl | (simp; done) | (simp [*]; done)), H', ⟨by first | omega | exact Nat.le_refl _⟩, ⟨by (with_reducible repeat (first | refine blk_drewN ?_ _ | refine blk_drew ?_ | refine blk_alloc ?_ _)); exact BK363.out⟩, ⟨by repeat (first | (with_reducible first | exact HB.out | apply below_alloc | apply pw_below_drewN | apply below_drew1 | refine below_set ?_ GE363.out) | exact HB.out)⟩⟩
   ·replace c9 := Bool.eq_false_iff.mpr c9
    subst c9
    have H1 : (spec_PathIn.j0 k a1 a2 true a0_0 a0_1 l0_2) = some r := by rw [if_neg (show ¬ (false = true) by decide)] at H; exact H
    clear H
    have H := H1
    clear H1
    have H' := Aside0.mk H
    clear H
    have hcz14_0 : w5.cell? ⟨gb363, 0, none⟩ = some (.int .i64 a0_0) := (blk_cell BK363.out 0).trans rfl
    have hcz14_1 : w5.cell? ⟨gb363, 1, none⟩ = some (.int .i64 a0_1) := (blk_cell BK363.out 1).trans rfl
    have hcz14_2 : w5.cell? ⟨gb363, 2, none⟩ = some (.slice A0_2 l0_2.length c0_2) := (blk_cell BK363.out 2).trans rfl
    have hfz14_0 := blk_frozen BK363.out 0
    have hfz14_1 := blk_frozen BK363.out 1
    have hfz14_2 := blk_frozen BK363.out 2
    go_wp2_with (first | ((with_reducible refine gate_callee (f := 18) rfl ?_); refine goesL_ (some 9) rfl rfl Try.func18 (by kernel_rfl) rfl #[.agg #[.int .i64 a0_0, .int .i64 a0_1, .slice A0_2 l0_2.length c0_2]] rfl (by (try simp only [List.map_toArray, List.map_cons, List.map_nil]); first | done | rfl | (simp only [List.length_drop, List.length_take]; rfl)) ?_; (with_reducible refine (spec_RingValid.calls k a0_0 a0_1 _ _ l0_2 true _ ?side1 ?side2 A6.out).mono ?_); (case side1 => repeat (first | exact (Kd.C_below HR0_2.out HB.out) | (with_reducible refine Kd.C_alloc ?_ _) | (with_reducible refine Kd.C_drewN ?_ _) | (with_reducible refine Kd.C_drew ?_))); (case side2 => exact HC0_2.out); rintro e w15 ⟨rfl, hb⟩; refine ⟨_, rfl, ?_⟩; have n0_ := Aside0.mk (blk_below (g := gb363) (o := .cells #[.int .i64 a0_0, .int .i64 a0_1, .slice A0_2 l0_2.length c0_2] 25 (0, 0)) (by (with_reducible repeat (first | refine blk_drewN ?_ _ | refine blk_drew ?_ | refine blk_alloc ?_ _)); exact BK363.out) hb); have n1_ := Aside0.mk (below_step (by repeat (first | (with_reducible first | exact HB.out | apply below_alloc | apply pw_below_drewN | apply below_drew1 | refine below_set ?_ GE363.out) | exact HB.out)) hb); clear BK363; clear HB; have BK363 := n0_; have HB := n1_; clear n0_ n1_; (try clear hb); (try clear hb2); (try clear hk); (try clear hi); have hcz16_0 : w15.cell? ⟨gb363, 0, none⟩ = some (.int .i64 a0_0) := (blk_cell BK363.out 0).trans rfl; have hcz16_1 : w15.cell? ⟨gb363, 1, none⟩ = some (.int .i64 a0_1) := (blk_cell BK363.out 1).trans rfl; have hcz16_2 : w15.cell? ⟨gb363, 2, none⟩ = some (.slice A0_2 l0_2.length c0_2) := (blk_cell BK363.out 2).trans rfl; have hfz16_0 := blk_frozen BK363.out 0; have hfz16_1 := blk_frozen BK363.out 1; have hfz16_2 := blk_frozen BK363.out 2) | (go_at_call 48; (with_reducible refine (spec_l1In.calls a1 0 (wrap64 (a0_0 - 1)) false _ A8.out).mono ?_); rintro e w' ⟨rfl, ⟨nd, rfl⟩⟩))
    go_meet
    case rel => exact ⟨_, (true), (by first | rfl | (simp; done) | (simp [*]; done)), H', ⟨by first | omega | exact Nat.le_refl _⟩, ⟨by (with_reducible repeat (first | refine blk_drewN ?_ _ | refine blk_drew ?_ | refine blk_alloc ?_ _)); exact BK363.out⟩, ⟨by repeat (first | (with_reducible first | exact HB.out | apply below_alloc | apply pw_below_drewN | apply below_drew1 | refine below_set ?_ GE363.out) | exact HB.out)⟩⟩
  ·replace c7 := Bool.eq_false_iff.mpr c7
   subst c7
   have H1 : (spec_PathIn.j0 k a1 a2 true a0_0 a0_1 l0_2) = some r := by rw [if_neg (show ¬ (false = true) by decide)] at H; exact H
   clear H
   have H := H1
   clear H1
   have H' := Aside0.mk H
   clear H
   have hcz17_0 : w5.cell? ⟨gb363, 0, none⟩ = some (.int .i64 a0_0) := (blk_cell BK363.out 0).trans rfl
   have hcz17_1 : w5.cell? ⟨gb363, 1, none⟩ = some (.int .i64 a0_1) := (blk_cell BK363.out 1).trans rfl
   have hcz17_2 : w5.cell? ⟨gb363, 2, none⟩ = some (.slice A0_2 l0_2.length c0_2) := (blk_cell BK363.out 2).trans rfl
   have hfz17_0 := blk_frozen BK363.out 0
   have hfz17_1 := blk_frozen BK363.out 1
   have hfz17_2 := blk_frozen BK363.out 2
   go_wp2_with (first | ((with_reducible refine gate_callee (f := 18) rfl ?_); refine goesL_ (some 9) rfl rfl Try.func18 (by kernel_rfl) rfl #[.agg #[.int .i64 a0_0, .int .i64 a0_1, .slice A0_2 l0_2.length c0_2]] rfl (by (try simp only [List.map_toArray, List.map_cons, List.map_nil]); first | done | rfl | (simp only [List.length_drop, List.length_take]; rfl)) ?_; (with_reducible refine (spec_RingValid.calls k a0_0 a0_1 _ _ l0_2 false _ ?side1 ?side2 A6.out).mono ?_); (case side1 => repeat (first | exact (Kd.C_below HR0_2.out HB.out) | (with_reducible refine Kd.C_alloc ?_ _) | (with_reducible refine Kd.C_drewN ?_ _) | (with_reducible refine Kd.C_drew ?_))); (case side2 => exact HC0_2.out); rintro e w18 ⟨rfl, hb⟩; refine ⟨_, rfl, ?_⟩; have n0_ := Aside0.mk (blk_below (g := gb363) (o := .cells #[.int .i64 a0_0, .int .i64 a0_1, .slice A0_2 l0_2.length c0_2] 25 (0, 0)) (by (with_reducible repeat (first | refine blk_drewN ?_ _ | refine blk_drew ?_ | refine blk_alloc ?_ _)); exact BK363.out) hb); have n1_ := Aside0.mk (below_step (by repeat (first | (with_reducible first | exact HB.out | apply below_alloc | apply pw_below_drewN | apply below_drew1 | refine below_set ?_ GE363.out) | exact HB.out)) hb); clear BK363; clear HB; have BK363 := n0_; have HB := n1_; clear n0_ n1_; (try clear hb); (try clear hb2); (try clear hk); (try clear hi)))
   go_meet
   case rel => exact ⟨_, (true), (by first | rfl | (simp; done) | (simp [*]; done)), H', ⟨by first | omega | exact Nat.le_refl _⟩, ⟨by (with_reducible repeat (first | refine blk_drewN ?_ _ | refine blk_drew ?_ | refine blk_alloc ?_ _)); exact BK363.out⟩, ⟨by repeat (first | (with_reducible first | exact HB.out | apply below_alloc | apply pw_below_drewN | apply below_drew1 | refine below_set ?_ GE363.out) | exact HB.out)⟩⟩
 case rest =>
  clear HC4
  try clear c1
  try clear c2
  try clear p2
  try clear p6
  try clear c7
  try clear c9
  try clear c18
  try clear hcz11_0
  try clear hcz11_1
  try clear hcz11_2
  try clear hcz13_0
  try clear hcz13_1
  try clear hcz13_2
  try clear hcz14_0
  try clear hcz14_1
  try clear hcz14_2
  try clear hcz16_0
  try clear hcz16_1
  try clear hcz16_2
  try clear hcz17_0
  try clear hcz17_1
  try clear hcz17_2
  try clear hfz11_0
  try clear hfz11_1
  try clear hfz11_2
  try clear hfz13_0
  try clear hfz13_1
  try clear hfz13_2
  try clear hfz14_0
  try clear hfz14_1
  try clear hfz14_2
  try clear hfz16_0
  try clear hfz16_1
  try clear hfz16_2
  try clear hfz17_0
  try clear hfz17_1
  try clear hfz17_2
  obtain ⟨kq, x26_3, rfl, HA, HJ3, BK363, HB⟩ := hcut
  cases kq with
  | zero => exact absurd HA.out (by simp [spec_PathIn.j0])
  | succ kj3 =>
   have H := HA.out
   clear HA
   simp only [spec_PathIn.j0] at H
   by_cases c19 : x26_3 = true
   ·subst c19
    have H1 : (some (([] : List Int))) = some r := by rw [if_pos rfl] at H; exact H
    clear H
    have H := H1
    clear H1
    obtain ⟨y367, hy367⟩ : ∃ y_ : List Int, y_ = (([] : List Int)) := ⟨_, rfl⟩
    replace H : (some y367) = some r := by first | (rw [hy367]; with_reducible exact H) | (have H2_ := (Option.bind_some _ _).symm.trans H; rw [hy367]; with_reducible exact H2_) | (have H2_ := (Option.bind_some _ _).symm.trans H; with_reducible exact H2_) | with_reducible exact H | (rw [hy367]; exact H) | exact H
    have Ny367 := Aside0.mk hy367
    clear hy367
    obtain rfl := Option.some.inj H
    go_wp2_with (first | ((with_reducible refine gate_dst (N := 27) rfl ?_); refine Kd.R_lit (Kd.int .i64) _ 3 ?hg (N := 27) ?hd (xs := ([] : List Int)) (inner := []) (ok := fun _ => True) (okp := fun _ => True) ?hr ?hp (fun _ hk => hk) trivial (Below.refl _ _) (Nat.le_refl _) (by simp) ?_; (case hd => rfl); (case hg => rfl); (case hr => first | (go_simp; done) | (go_simp; rfl)); (case hp => exact (Reps.none _ _)); intro v368 w20 ho21 hb hg_ hnew_; clear hg_ hnew_; (first | rw [← Ny367.out] at ho21 | (simp only [Int.reduceToNat] at ho21; rw [← Ny367.out] at ho21)); have n0_ := Aside0.mk (Kd.R_lower ho21 (below_size (by repeat (first | (with_reducible first | exact HB.out | apply below_alloc | apply pw_below_drewN | apply below_drew1 | refine below_set ?_ GE363.out) | exact HB.out)))); have n1_ := Aside0.mk (blk_below (g := gb363) (o := .cells #[.int .i64 a0_0, .int .i64 a0_1, .slice A0_2 l0_2.length c0_2] 25 (0, 0)) (by (with_reducible repeat (first | refine blk_drewN ?_ _ | refine blk_drew ?_ | refine blk_alloc ?_ _)); exact BK363.out) hb); have n2_ := Aside0.mk (below_step (by repeat (first | (with_reducible first | exact HB.out | apply below_alloc | apply pw_below_drewN | apply below_drew1 | refine below_set ?_ GE363.out) | exact HB.out)) hb); clear BK363; clear HB; have HO369 := n0_; have BK363 := n1_; have HB := n2_; clear n0_ n1_ n2_; clear hb ho21))
    go_ret
    exact ⟨_, by first | rfl | (simp [errW_none, errW_some] <;> rfl) | (simp [*, errW_none, errW_some] <;> rfl), by (with_reducible repeat (first | apply Kd.R_alloc | apply Kd.R_drewN | apply Kd.R_drew)); exact HO369.out, by repeat (first | (with_reducible first | exact HB.out | apply below_alloc | apply pw_below_drewN | apply below_drew1 | refine below_set ?_ GE363.out) | exact HB.out)⟩
   ·replace c19 := Bool.eq_false_iff.mpr c19
    subst c19
    have H1 : ((spec_l17Walk.f kj3 a0_0 a0_1 l0_2 a1 a2 1).bind fun t370 => (if (t370.length : Int) = 0 then ((spec_l17Walk.f kj3 a0_0 a0_1 l0_2 a1 a2 (-1)).bind fun t373 => (some t373)) else (some t370))) = some r := by rw [if_neg (show ¬ (false = true) by decide)] at H; exact H
    clear H
    have H := H1
    clear H1
    replace H := Option.bind_eq_some_iff.mp H
    obtain ⟨t370, A220, H⟩ := H
    replace H : (if (t370.length : Int) = 0 then ((spec_l17Walk.f kj3 a0_0 a0_1 l0_2 a1 a2 (-1)).bind fun t373 => (some t373)) else (some t370)) = some r := H
    have A22 := Aside0.mk A220
    clear A220
    by_cases c23 : (t370.length : Int) = 0
    ·rw [if_pos c23] at H
     have c23b0 : ((t370.length : Int) == 0) = true := beq_iff_eq.mpr c23
     have c23b1 : ((t370.length : Int) != 0) = false := bne_eq_false_iff_eq.mpr c23
     clear c23
     replace H := Option.bind_eq_some_iff.mp H
     obtain ⟨t373, A240, H⟩ := H
     replace H : (some t373) = some r := H
     have A24 := Aside0.mk A240
     clear A240
     obtain rfl := Option.some.inj H
     have hcz25_0 : wc.cell? ⟨gb363, 0, none⟩ = some (.int .i64 a0_0) := (blk_cell BK363.out 0).trans rfl
     have hcz25_1 : wc.cell? ⟨gb363, 1, none⟩ = some (.int .i64 a0_1) := (blk_cell BK363.out 1).trans rfl
     have hcz25_2 : wc.cell? ⟨gb363, 2, none⟩ = some (.slice A0_2 l0_2.length c0_2) := (blk_cell BK363.out 2).trans rfl
     have hfz25_0 := blk_frozen BK363.out 0
     have hfz25_1 := blk_frozen BK363.out 1
     have hfz25_2 := blk_frozen BK363.out 2
     go_wp2_with (first | ((with_reducible refine gate_callee (f := 60) rfl ?_); refine goesL_ (some 31) rfl rfl Try.func60 (by kernel_rfl) rfl #[.agg #[.int .i64 a0_0, .int .i64 a0_1, .slice A0_2 l0_2.length c0_2], .int .i64 a1, .int .i64 a2, .int .i64 1] rfl (by (try simp only [List.map_toArray, List.map_cons, List.map_nil]); first | done | rfl | (simp only [List.length_drop, List.length_take]; rfl)) ?_; (with_reducible refine (spec_l17Walk.calls kj3 a0_0 a0_1 _ _ l0_2 a1 a2 1 t370 _ ?side1 ?side2 A22.out).mono ?_); (case side1 => repeat (first | exact (Kd.C_below HR0_2.out HB.out) | (with_reducible refine Kd.C_alloc ?_ _) | (with_reducible refine Kd.C_drewN ?_ _) | (with_reducible refine Kd.C_drew ?_))); (case side2 => exact HC0_2.out); rintro e w26 ⟨v371, rfl, ho0, hb⟩; refine ⟨_, rfl, ?_⟩; have n0_ := Aside0.mk (Kd.R_lower ho0 (below_size (by repeat (first | (with_reducible first | exact HB.out | apply below_alloc | apply pw_below_drewN | apply below_drew1 | refine below_set ?_ GE363.out) | exact HB.out)))); have n1_ := Aside0.mk (blk_below (g := gb363) (o := .cells #[.int .i64 a0_0, .int .i64 a0_1, .slice A0_2 l0_2.length c0_2] 25 (0, 0)) (by (with_reducible repeat (first | refine blk_drewN ?_ _ | refine blk_drew ?_ | refine blk_alloc ?_ _)); exact BK363.out) hb); have n2_ := Aside0.mk (below_step (by repeat (first | (with_reducible first | exact HB.out | apply below_alloc | apply pw_below_drewN | apply below_drew1 | refine below_set ?_ GE363.out) | exact HB.out)) hb); clear BK363; clear HB; have HO372 := n0_; have BK363 := n1_; have HB := n2_; clear n0_ n1_ n2_; (try clear hb); (try clear hb2); (try clear hk); (try clear hi); (try clear ho0); obtain ⟨Ao27, co27, eo27⟩ := Kd.R_slice HO372.out; subst eo27; have hcz28_0 : w26.cell? ⟨gb363, 0, none⟩ = some (.int .i64 a0_0) := (blk_cell BK363.out 0).trans rfl; have hcz28_1 : w26.cell? ⟨gb363, 1, none⟩ = some (.int .i64 a0_1) := (blk_cell BK363.out 1).trans rfl; have hcz28_2 : w26.cell? ⟨gb363, 2, none⟩ = some (.slice A0_2 l0_2.length c0_2) := (blk_cell BK363.out 2).trans rfl; have hfz28_0 := blk_frozen BK363.out 0; have hfz28_1 := blk_frozen BK363.out 1; have hfz28_2 := blk_frozen BK363.out 2) | ((with_reducible refine gate_callee (f := 60) rfl ?_); refine goesL_ (some 38) rfl rfl Try.func60 (by kernel_rfl) rfl #[.agg #[.int .i64 a0_0, .int .i64 a0_1, .slice A0_2 l0_2.length c0_2], .int .i64 a1, .int .i64 a2, .int .i64 (-1)] rfl (by (try simp only [List.map_toArray, List.map_cons, List.map_nil]); first | done | rfl | (simp only [List.length_drop, List.length_take]; rfl)) ?_; (with_reducible refine (spec_l17Walk.calls kj3 a0_0 a0_1 _ _ l0_2 a1 a2 (-1) t373 _ ?side1 ?side2 A24.out).mono ?_); (case side1 => repeat (first | exact (Kd.C_below HR0_2.out HB.out) | (with_reducible refine Kd.C_alloc ?_ _) | (with_reducible refine Kd.C_drewN ?_ _) | (with_reducible refine Kd.C_drew ?_))); (case side2 => exact HC0_2.out); rintro e w29 ⟨v374, rfl, ho0, hb⟩; refine ⟨_, rfl, ?_⟩; have n0_ := Aside0.mk (Kd.R_elder' (by (with_reducible repeat (first | apply Kd.R_alloc | apply Kd.R_drewN | apply Kd.R_drew)); exact HO372.out) (Kd.R_base ho0) hb); have n1_ := Aside0.mk (Kd.R_lower (Kd.R_new' ho0 (Kd.R_lt (by (with_reducible repeat (first | apply Kd.R_alloc | apply Kd.R_drewN | apply Kd.R_drew)); exact HO372.out))) (below_size (by repeat (first | (with_reducible first | exact HB.out | apply below_alloc | apply pw_below_drewN | apply below_drew1 | refine below_set ?_ GE363.out) | exact HB.out)))); have n2_ := Aside0.mk (blk_below (g := gb363) (o := .cells #[.int .i64 a0_0, .int .i64 a0_1, .slice A0_2 l0_2.length c0_2] 25 (0, 0)) (by (with_reducible repeat (first | refine blk_drewN ?_ _ | refine blk_drew ?_ | refine blk_alloc ?_ _)); exact BK363.out) hb); have n3_ := Aside0.mk (below_step (by repeat (first | (with_reducible first | exact HB.out | apply below_alloc | apply pw_below_drewN | apply below_drew1 | refine below_set ?_ GE363.out) | exact HB.out)) hb); clear HO372; clear BK363; clear HB; have HO372 := n0_; have HO375 := n1_; have BK363 := n2_; have HB := n3_; clear n0_ n1_ n2_ n3_; (try clear hb); (try clear hb2); (try clear hk); (try clear hi); (try clear ho0)))
     go_ret
     exact ⟨_, by first | rfl | (simp [errW_none, errW_some] <;> rfl) | (simp [*, errW_none, errW_some] <;> rfl), by (with_reducible repeat (first | apply Kd.R_alloc | apply Kd.R_drewN | apply Kd.R_drew)); exact Kd.R_mono HO375.out (fun _ hk => trivial), by repeat (first | (with_reducible first | exact HB.out | apply below_alloc | apply pw_below_drewN | apply below_drew1 | refine below_set ?_ GE363.out) | exact HB.out)⟩
    ·rw [if_neg c23] at H
     have c23b0 : ((t370.length : Int) == 0) = false := beq_eq_false_iff_ne.mpr c23
     have c23b1 : ((t370.length : Int) != 0) = true := bne_iff_ne.mpr c23
     have c23b2 : ¬ (t370 = []) := fun h_ => c23 (by rw [h_]; rfl)
     obtain rfl := Option.some.inj H
     have hcz30_0 : wc.cell? ⟨gb363, 0, none⟩ = some (.int .i64 a0_0) := (blk_cell BK363.out 0).trans rfl
     have hcz30_1 : wc.cell? ⟨gb363, 1, none⟩ = some (.int .i64 a0_1) := (blk_cell BK363.out 1).trans rfl
     have hcz30_2 : wc.cell? ⟨gb363, 2, none⟩ = some (.slice A0_2 l0_2.length c0_2) := (blk_cell BK363.out 2).trans rfl
     have hfz30_0 := blk_frozen BK363.out 0
     have hfz30_1 := blk_frozen BK363.out 1
     have hfz30_2 := blk_frozen BK363.out 2
     go_wp2_with (first | ((with_reducible refine gate_callee (f := 60) rfl ?_); refine goesL_ (some 31) rfl rfl Try.func60 (by kernel_rfl) rfl #[.agg #[.int .i64 a0_0, .int .i64 a0_1, .slice A0_2 l0_2.length c0_2], .int .i64 a1, .int .i64 a2, .int .i64 1] rfl (by (try simp only [List.map_toArray, List.map_cons, List.map_nil]); first | done | rfl | (simp only [List.length_drop, List.length_take]; rfl)) ?_; (with_reducible refine (spec_l17Walk.calls kj3 a0_0 a0_1 _ _ l0_2 a1 a2 1 t370 _ ?side1 ?side2 A22.out).mono ?_); (case side1 => repeat (first | exact (Kd.C_below HR0_2.out HB.out) | (with_reducible refine Kd.C_alloc ?_ _) | (with_reducible refine Kd.C_drewN ?_ _) | (with_reducible refine Kd.C_drew ?_))); (case side2 => exact HC0_2.out); rintro e w31 ⟨v371, rfl, ho0, hb⟩; refine ⟨_, rfl, ?_⟩; have n0_ := Aside0.mk (Kd.R_lower ho0 (below_size (by repeat (first | (with_reducible first | exact HB.out | apply below_alloc | apply pw_below_drewN | apply below_drew1 | refine below_set ?_ GE363.out) | exact HB.out)))); have n1_ := Aside0.mk (blk_below (g := gb363) (o := .cells #[.int .i64 a0_0, .int .i64 a0_1, .slice A0_2 l0_2.length c0_2] 25 (0, 0)) (by (with_reducible repeat (first | refine blk_drewN ?_ _ | refine blk_drew ?_ | refine blk_alloc ?_ _)); exact BK363.out) hb); have n2_ := Aside0.mk (below_step (by repeat (first | (with_reducible first | exact HB.out | apply below_alloc | apply pw_below_drewN | apply below_drew1 | refine below_set ?_ GE363.out) | exact HB.out)) hb); clear BK363; clear HB; have HO372 := n0_; have BK363 := n1_; have HB := n2_; clear n0_ n1_ n2_; (try clear hb); (try clear hb2); (try clear hk); (try clear hi); (try clear ho0); obtain ⟨Ao32, co32, eo32⟩ := Kd.R_slice HO372.out; subst eo32))
     go_ret
     exact ⟨_, by first | rfl | (simp [errW_none, errW_some] <;> rfl) | (simp [*, errW_none, errW_some] <;> rfl), by (with_reducible repeat (first | apply Kd.R_alloc | apply Kd.R_drewN | apply Kd.R_drew)); exact HO372.out, by repeat (first | (with_reducible first | exact HB.out | apply below_alloc | apply pw_below_drewN | apply below_drew1 | refine below_set ?_ GE363.out) | exact HB.out)⟩

/-! ### spec_ReachIn: function 35 -/
mutual
def spec_ReachIn.l0 : Nat → Int → List Int → Int → Int → Int → List Int → Option (List Int)
 | 0, _, _, _, _, _, _ => none
 | k + 1, x1, x5, x6, x500000, x500001, x500002 => (spec_RingValid.f k x500000 x500001 x500002).bind fun t503 => (if t503 = true then (spec_ReachIn.j1 k x1 x5 x6 (decide (x6 < x500000)) x500000 x500001 x500002) else (spec_ReachIn.j1 k x1 x5 x6 false x500000 x500001 x500002))
def spec_ReachIn.j1 : Nat → Int → List Int → Int → Bool → Int → Int → List Int → Option (List Int)
 | 0, _, _, _, _, _, _, _ => none
 | k + 1, x1, x5, x6, x15, x500000, x500001, x500002 => if x15 = true then ((spec_PathIn.f k x500000 x500001 x500002 x1 x6).bind fun t504 => (if (t504.length : Int) > 0 then (if x5.length < 17592186044416 then (spec_ReachIn.l0 k x1 (x5 ++ [x6]) (wrap64 (x6 + 1)) x500000 x500001 x500002) else (none)) else (spec_ReachIn.l0 k x1 x5 (wrap64 (x6 + 1)) x500000 x500001 x500002))) else (some x5)
end
def spec_ReachIn.f (k : Nat) (a0_0 : Int) (a0_1 : Int) (l0_2 : List Int) (a1 : Int) : Option (List Int) := spec_ReachIn.l0 k a1 (([] : List Int)) 0 a0_0 a0_1 l0_2
theorem spec_ReachIn.mono_l : ∀ k, (∀ y0 y1 y2 y3 y4 y5, LeO (spec_ReachIn.l0 k y0 y1 y2 y3 y4 y5) (spec_ReachIn.l0 (k + 1) y0 y1 y2 y3 y4 y5)) ∧ (∀ y0 y1 y2 y3 y4 y5 y6, LeO (spec_ReachIn.j1 k y0 y1 y2 y3 y4 y5 y6) (spec_ReachIn.j1 (k + 1) y0 y1 y2 y3 y4 y5 y6))
 | 0 => ⟨fun _ _ _ _ _ _ r h => by simp [spec_ReachIn.l0] at h, fun _ _ _ _ _ _ _ r h => by simp [spec_ReachIn.j1] at h⟩
 | k + 1 => by
  obtain ⟨ih0, ih1⟩ := spec_ReachIn.mono_l k
  refine ⟨?_, ?_⟩
  ·intro y0 y1 y2 y3 y4 y5
   unfold spec_ReachIn.l0
   repeat' first
   | (with_reducible exact ih0 _ _ _ _ _ _)
   | (with_reducible exact ih1 _ _ _ _ _ _ _)
   | (with_reducible exact spec_PathIn.mono _ _ _ _ _ _)
   | (with_reducible exact spec_RingValid.mono _ _ _ _)
   | (with_reducible exact LeO.refl _)
   | (with_reducible exact LeO.none _)
   | (with_reducible refine LeO.ite ?_ ?_)
   | (with_reducible refine LeO.bind ?_ (fun _ => ?_))
   | exact ih0 _ _ _ _ _ _
   | exact ih1 _ _ _ _ _ _ _
   | exact spec_PathIn.mono _ _ _ _ _ _
   | exact spec_RingValid.mono _ _ _ _
   | exact LeO.none _
   | refine LeO.ite ?_ ?_
   | refine LeO.bind ?_ (fun _ => ?_)
  ·intro y0 y1 y2 y3 y4 y5 y6
   unfold spec_ReachIn.j1
   repeat' first
   | (with_reducible exact ih0 _ _ _ _ _ _)
   | (with_reducible exact ih1 _ _ _ _ _ _ _)
   | (with_reducible exact spec_PathIn.mono _ _ _ _ _ _)
   | (with_reducible exact spec_RingValid.mono _ _ _ _)
   | (with_reducible exact LeO.refl _)
   | (with_reducible exact LeO.none _)
   | (with_reducible refine LeO.ite ?_ ?_)
   | (with_reducible refine LeO.bind ?_ (fun _ => ?_))
   | exact ih0 _ _ _ _ _ _
   | exact ih1 _ _ _ _ _ _ _
   | exact spec_PathIn.mono _ _ _ _ _ _
   | exact spec_RingValid.mono _ _ _ _
   | exact LeO.none _
   | refine LeO.ite ?_ ?_
   | refine LeO.bind ?_ (fun _ => ?_)
theorem spec_ReachIn.mono : ∀ a0 a1 a2 a3 k, LeO (spec_ReachIn.f k a0 a1 a2 a3) (spec_ReachIn.f (k + 1) a0 a1 a2 a3) := by
 intro a0 a1 a2 a3 k
 obtain ⟨ih0, ih1⟩ := spec_ReachIn.mono_l k
 unfold spec_ReachIn.f
 repeat' first
   | (with_reducible exact ih0 _ _ _ _ _ _)
   | (with_reducible exact ih1 _ _ _ _ _ _ _)
   | (with_reducible exact spec_PathIn.mono _ _ _ _ _ _)
   | (with_reducible exact spec_RingValid.mono _ _ _ _)
   | (with_reducible exact LeO.refl _)
   | (with_reducible exact LeO.none _)
   | (with_reducible refine LeO.ite ?_ ?_)
   | (with_reducible refine LeO.bind ?_ (fun _ => ?_))
   | exact ih0 _ _ _ _ _ _
   | exact ih1 _ _ _ _ _ _ _
   | exact spec_PathIn.mono _ _ _ _ _ _
   | exact spec_RingValid.mono _ _ _ _
   | exact LeO.none _
   | refine LeO.ite ?_ ?_
   | refine LeO.bind ?_ (fun _ => ?_)
set_option maxHeartbeats 8000000 in
set_option maxRecDepth 100000 in
theorem spec_ReachIn.calls (k : Nat) (a0_0 : Int) (a0_1 : Int) (A0_2 : Option Addr) (c0_2 : Nat) (l0_2 : List Int) (a1 : Int) (r : List Int) (w : World) (hr0_2 : Kd.C (Kd.int .i64) w A0_2 l0_2.length l0_2) (hc0_2 : l0_2.length ≤ c0_2) (h : spec_ReachIn.f k a0_0 a0_1 l0_2 a1 = some r) :
  Calls Try.prog 35 #[.agg #[.int .i64 a0_0, .int .i64 a0_1, .slice A0_2 l0_2.length c0_2], .int .i64 a1] w fun e w' => ∃ v0_ : Value, e = .returned (v0_) ∧ Kd.R (Kd.int .i64) 3 w' w.heap.size (fun _ => True) v0_ r ∧ Below w.heap.size w w' := by
 have hu25 := Try.underlying25
 have HR0_2 := Aside0.mk hr0_2
 have HC0_2 := Aside0.mk hc0_2
 clear hr0_2 hc0_2
 have HB := Aside0.mk (Below.refl w.heap.size w)
 have H : (spec_ReachIn.l0 k a1 (([] : List Int)) 0 a0_0 a0_1 l0_2) = some r := h
 clear h
 obtain ⟨y500, hy500⟩ : ∃ y_ : List Int, y_ = (([] : List Int)) := ⟨_, rfl⟩
 replace H : (spec_ReachIn.l0 k a1 y500 0 a0_0 a0_1 l0_2) = some r := by first | (rw [hy500]; with_reducible exact H) | (have H2_ := (Option.bind_some _ _).symm.trans H; rw [hy500]; with_reducible exact H2_) | (have H2_ := (Option.bind_some _ _).symm.trans H; with_reducible exact H2_) | with_reducible exact H | (rw [hy500]; exact H) | exact H
 have Ny500 := Aside0.mk hy500
 clear hy500
 have H' := Aside0.mk H
 clear H
 go_enter Try.func35, Try.ntmps35
 go_wp2_with (first | ((with_reducible refine gate_dst (N := 2) rfl ?_); refine box_event ?hg (N := 2) ?hd (cs := #[.int .i64 a0_0, .int .i64 a0_1, .slice A0_2 l0_2.length c0_2]) (t := 25) ?hr ?_; (case hd => rfl); (case hg => rfl); (case hr => first | (go_simp; done) | (go_simp; rfl)); intro gb499 hg w3 hbox hb; have n0_ := Aside0.mk (below_step (by repeat (first | (with_reducible first | exact HB.out | apply below_alloc | apply pw_below_drewN | apply below_drew1) | exact HB.out)) hb); have n1_ := Aside0.mk (hbox); have n2_ := Aside0.mk ((by rw [hg]; exact (below_size (by repeat (first | (with_reducible first | exact HB.out | apply below_alloc | apply pw_below_drewN | apply below_drew1) | exact HB.out))) : w.heap.size ≤ gb499)); have n3_ := Aside0.mk ((by rw [hg]; exact (below_size (by repeat (first | (with_reducible first | exact HB.out | apply below_alloc | apply pw_below_drewN | apply below_drew1) | exact HB.out))) : w.heap.size ≤ gb499)); clear HB; have HB := n0_; have BK499 := n1_; have GW499 := n2_; have GE499 := n3_; clear n0_ n1_ n2_ n3_; clear hb hbox hg) | ((with_reducible refine gate_dst (N := 7) rfl ?_); refine Kd.R_lit (Kd.int .i64) _ 3 ?hg (N := 7) ?hd (xs := ([] : List Int)) (inner := []) (ok := fun _ => True) (okp := fun _ => True) ?hr ?hp (fun _ hk => hk) trivial (Below.refl _ _) (Nat.le_refl _) (by simp) ?_; (case hd => rfl); (case hg => rfl); (case hr => first | (go_simp; done) | (go_simp; rfl)); (case hp => exact (Reps.none _ _)); intro v501 w4 ho5 hb hg_ hnew_; clear hg_ hnew_; (first | rw [← Ny500.out] at ho5 | (simp only [Int.reduceToNat] at ho5; rw [← Ny500.out] at ho5)); have n0_ := Aside0.mk (Kd.R_lower ho5 (below_size (by repeat (first | (with_reducible first | exact HB.out | apply below_alloc | apply pw_below_drewN | apply below_drew1 | refine below_set ?_ GE499.out) | exact HB.out)))); have n1_ := Aside0.mk (blk_below (g := gb499) (o := .cells #[.int .i64 a0_0, .int .i64 a0_1, .slice A0_2 l0_2.length c0_2] 25 (0, 0)) (by (with_reducible repeat (first | refine blk_drewN ?_ _ | refine blk_drew ?_ | refine blk_alloc ?_ _)); exact BK499.out) hb); have n2_ := Aside0.mk (below_step (by repeat (first | (with_reducible first | exact HB.out | apply below_alloc | apply pw_below_drewN | apply below_drew1 | refine below_set ?_ GE499.out) | exact HB.out)) hb); clear BK499; clear HB; have HO502 := n0_; have BK499 := n1_; have HB := n2_; clear n0_ n1_ n2_; clear hb ho5))
 go_loopg [5, 6] k (fun kq v5 v6 w' => ∃ (x5_1 : List Int) (x6_1 : Int), v6 = .int .i64 x6_1 ∧ Aside0 (spec_ReachIn.l0 kq a1 x5_1 x6_1 a0_0 a0_1 l0_2 = some r) ∧ Aside0 (kq ≤ k) ∧ Aside0 (Kd.R (Kd.int .i64) 3 w' w.heap.size (fun _ => True) v5 x5_1) ∧ Aside0 (w'.heap[gb499]? = some (.cells #[.int .i64 a0_0, .int .i64 a0_1, (.slice A0_2 l0_2.length c0_2)] 25 (0, 0))) ∧ Aside0 (Below w.heap.size w w'))
 case atStart => exact ⟨(y500), (0), (by first | rfl | (simp; done) | (simp [*]; done)), H', ⟨Nat.le_refl _⟩, ⟨by (with_reducible repeat (first | apply Kd.R_alloc | apply Kd.R_drewN | apply Kd.R_drew)); exact HO502.out⟩, ⟨by (with_reducible repeat (first | refine blk_drewN ?_ _ | refine blk_drew ?_ | refine blk_alloc ?_ _)); exact BK499.out⟩, ⟨by repeat (first | (with_reducible first | exact HB.out | apply below_alloc | apply pw_below_drewN | apply below_drew1 | refine below_set ?_ GE499.out) | exact HB.out)⟩⟩
 case round =>
  clear H'
  try clear p2
  try clear c3
  obtain ⟨x5_1, x6_1, rfl, HA, HK1, HO_5, BK499, HB⟩ := hrel
  cases gk with
  | zero => exact absurd HA.out (by simp [spec_ReachIn.l0])
  | succ k1 =>
   have H := HA.out
   clear HA
   simp only [spec_ReachIn.l0] at H
   have HC6 := Aside0.mk H
   clear H
   go_upto_region 3 with (fail)
   go_cut [15] (fun v15 wc => ∃ (kq : Nat) (x15_5 : Bool), v15 = .bool x15_5 ∧ Aside0 (spec_ReachIn.j1 kq a1 x5_1 x6_1 x15_5 a0_0 a0_1 l0_2 = some r) ∧ Aside0 (kq ≤ k1) ∧ Aside0 (Kd.R (Kd.int .i64) 3 wc w.heap.size (fun _ => True) u5 x5_1) ∧ Aside0 (wc.heap[gb499]? = some (.cells #[.int .i64 a0_0, .int .i64 a0_1, (.slice A0_2 l0_2.length c0_2)] 25 (0, 0))) ∧ Aside0 (Below w.heap.size w wc))
   case first =>
    have H := HC6.out
    clear HC6
    replace H := Option.bind_eq_some_iff.mp H
    obtain ⟨t503, A70, H⟩ := H
    replace H : (if t503 = true then (spec_ReachIn.j1 k1 a1 x5_1 x6_1 (decide (x6_1 < a0_0)) a0_0 a0_1 l0_2) else (spec_ReachIn.j1 k1 a1 x5_1 x6_1 false a0_0 a0_1 l0_2)) = some r := H
    have A7 := Aside0.mk A70
    clear A70
    by_cases c8 : t503 = true
    ·subst c8
     have H1 : (spec_ReachIn.j1 k1 a1 x5_1 x6_1 (decide (x6_1 < a0_0)) a0_0 a0_1 l0_2) = some r := by rw [if_pos rfl] at H; exact H
     clear H
     have H := H1
     clear H1
     have H' := Aside0.mk H
     clear H
     have hcz9_0 : wr.cell? ⟨gb499, 0, none⟩ = some (.int .i64 a0_0) := (blk_cell BK499.out 0).trans rfl
     have hcz9_1 : wr.cell? ⟨gb499, 1, none⟩ = some (.int .i64 a0_1) := (blk_cell BK499.out 1).trans rfl
     have hcz9_2 : wr.cell? ⟨gb499, 2, none⟩ = some (.slice A0_2 l0_2.length c0_2) := (blk_cell BK499.out 2).trans rfl
     have hfz9_0 := blk_frozen BK499.out 0
     have hfz9_1 := blk_frozen BK499.out 1
     have hfz9_2 := blk_frozen BK499.out 2
     go_wp2_with (first | ((with_reducible refine gate_callee (f := 18) rfl ?_); refine goesL_ (some 9) rfl rfl Try.func18 (by kernel_rfl) rfl #[.agg #[.int .i64 a0_0, .int .i64 a0_1, .slice A0_2 l0_2.length c0_2]] rfl (by (try simp only [List.map_toArray, List.map_cons, List.map_nil]); first | done | rfl | (simp only [List.length_drop, List.length_take]; rfl)) ?_; (with_reducible refine (spec_RingValid.calls k1 a0_0 a0_1 _ _ l0_2 true _ ?side1 ?side2 A7.out).mono ?_); (case side1 => repeat (first | exact (Kd.C_below HR0_2.out HB.out) | (with_reducible refine Kd.C_alloc ?_ _) | (with_reducible refine Kd.C_drewN ?_ _) | (with_reducible refine Kd.C_drew ?_))); (case side2 => exact HC0_2.out); rintro e w10 ⟨rfl, hb⟩; refine ⟨_, rfl, ?_⟩; have n0_ := Aside0.mk (Kd.R_below (by (with_reducible repeat (first | apply Kd.R_alloc | apply Kd.R_drewN | apply Kd.R_drew)); exact HO_5.out) hb); have n1_ := Aside0.mk (blk_below (g := gb499) (o := .cells #[.int .i64 a0_0, .int .i64 a0_1, .slice A0_2 l0_2.length c0_2] 25 (0, 0)) (by (with_reducible repeat (first | refine blk_drewN ?_ _ | refine blk_drew ?_ | refine blk_alloc ?_ _)); exact BK499.out) hb); have n2_ := Aside0.mk (below_step (by repeat (first | (with_reducible first | exact HB.out | apply below_alloc | apply pw_below_drewN | apply below_drew1 | refine below_set ?_ GE499.out) | exact HB.out)) hb); clear HO_5; clear BK499; clear HB; have HO_5 := n0_; have BK499 := n1_; have HB := n2_; clear n0_ n1_ n2_; (try clear hb); (try clear hb2); (try clear hk); (try clear hi); have hcz11_0 : w10.cell? ⟨gb499, 0, none⟩ = some (.int .i64 a0_0) := (blk_cell BK499.out 0).trans rfl; have hcz11_1 : w10.cell? ⟨gb499, 1, none⟩ = some (.int .i64 a0_1) := (blk_cell BK499.out 1).trans rfl; have hcz11_2 : w10.cell? ⟨gb499, 2, none⟩ = some (.slice A0_2 l0_2.length c0_2) := (blk_cell BK499.out 2).trans rfl; have hfz11_0 := blk_frozen BK499.out 0; have hfz11_1 := blk_frozen BK499.out 1; have hfz11_2 := blk_frozen BK499.out 2))
     go_meet
     case rel => exact ⟨_, (decide (x6_1 < a0_0)), (by first | rfl | (simp; done) | (simp [*]; done)), H', ⟨by have := HK1.out; first | omega | exact Nat.le_refl _⟩, ⟨by (with_reducible repeat (first | apply Kd.R_alloc | apply Kd.R_drewN | apply Kd.R_drew)); exact HO_5.out⟩, ⟨by (with_reducible repeat (first | refine blk_drewN ?_ _ | refine blk_drew ?_ | refine blk_alloc ?_ _)); exact BK499.out⟩, ⟨by repeat (first | (with_reducible first | exact HB.out | apply below_alloc | apply pw_below_drewN | apply below_drew1 | refine below_set ?_ GE499.out) | exact HB.out)⟩⟩
    ·replace c8 := Bool.eq_false_iff.mpr c8
     subst c8
     have H1 : (spec_ReachIn.j1 k1 a1 x5_1 x6_1 false a0_0 a0_1 l0_2) = some r := by rw [if_neg (show ¬ (false = true) by decide)] at H; exact H
     clear H
     have H := H1
     clear H1
     have H' := Aside0.mk H
     clear H
     have hcz12_0 : wr.cell? ⟨gb499, 0, none⟩ = some (.int .i64 a0_0) := (blk_cell BK499.out 0).trans rfl
     have hcz12_1 : wr.cell? ⟨gb499, 1, none⟩ = some (.int .i64 a0_1) := (blk_cell BK499.out 1).trans rfl
     have hcz12_2 : wr.cell? ⟨gb499, 2, none⟩ = some (.slice A0_2 l0_2.length c0_2) := (blk_cell BK499.out 2).trans rfl
     have hfz12_0 := blk_frozen BK499.out 0
     have hfz12_1 := blk_frozen BK499.out 1
     have hfz12_2 := blk_frozen BK499.out 2
     go_wp2_with (first | ((with_reducible refine gate_callee (f := 18) rfl ?_); refine goesL_ (some 9) rfl rfl Try.func18 (by kernel_rfl) rfl #[.agg #[.int .i64 a0_0, .int .i64 a0_1, .slice A0_2 l0_2.length c0_2]] rfl (by (try simp only [List.map_toArray, List.map_cons, List.map_nil]); first | done | rfl | (simp only [List.length_drop, List.length_take]; rfl)) ?_; (with_reducible refine (spec_RingValid.calls k1 a0_0 a0_1 _ _ l0_2 false _ ?side1 ?side2 A7.out).mono ?_); (case side1 => repeat (first | exact (Kd.C_below HR0_2.out HB.out) | (with_reducible refine Kd.C_alloc ?_ _) | (with_reducible refine Kd.C_drewN ?_ _) | (with_reducible refine Kd.C_drew ?_))); (case side2 => exact HC0_2.out); rintro e w13 ⟨rfl, hb⟩; refine ⟨_, rfl, ?_⟩; have n0_ := Aside0.mk (Kd.R_below (by (with_reducible repeat (first | apply Kd.R_alloc | apply Kd.R_drewN | apply Kd.R_drew)); exact HO_5.out) hb); have n1_ := Aside0.mk (blk_below (g := gb499) (o := .cells #[.int .i64 a0_0, .int .i64 a0_1, .slice A0_2 l0_2.length c0_2] 25 (0, 0)) (by (with_reducible repeat (first | refine blk_drewN ?_ _ | refine blk_drew ?_ | refine blk_alloc ?_ _)); exact BK499.out) hb); have n2_ := Aside0.mk (below_step (by repeat (first | (with_reducible first | exact HB.out | apply below_alloc | apply pw_below_drewN | apply below_drew1 | refine below_set ?_ GE499.out) | exact HB.out)) hb); clear HO_5; clear BK499; clear HB; have HO_5 := n0_; have BK499 := n1_; have HB := n2_; clear n0_ n1_ n2_; (try clear hb); (try clear hb2); (try clear hk); (try clear hi)))
     go_meet
     case rel => exact ⟨_, (false), (by first | rfl | (simp; done) | (simp [*]; done)), H', ⟨by have := HK1.out; first | omega | exact Nat.le_refl _⟩, ⟨by (with_reducible repeat (first | apply Kd.R_alloc | apply Kd.R_drewN | apply Kd.R_drew)); exact HO_5.out⟩, ⟨by (with_reducible repeat (first | refine blk_drewN ?_ _ | refine blk_drew ?_ | refine blk_alloc ?_ _)); exact BK499.out⟩, ⟨by repeat (first | (with_reducible first | exact HB.out | apply below_alloc | apply pw_below_drewN | apply below_drew1 | refine below_set ?_ GE499.out) | exact HB.out)⟩⟩
   case rest =>
    clear HC6
    try clear c1
    try clear p2
    try clear c3
    try clear c8
    try clear hcz11_0
    try clear hcz11_1
    try clear hcz11_2
    try clear hcz12_0
    try clear hcz12_1
    try clear hcz12_2
    try clear hcz9_0
    try clear hcz9_1
    try clear hcz9_2
    try clear hfz11_0
    try clear hfz11_1
    try clear hfz11_2
    try clear hfz12_0
    try clear hfz12_1
    try clear hfz12_2
    try clear hfz9_0
    try clear hfz9_1
    try clear hfz9_2
    try clear p2
    obtain ⟨kq, x15_5, rfl, HA, HJ5, HO_5, BK499, HB⟩ := hcut
    cases kq with
    | zero => exact absurd HA.out (by simp [spec_ReachIn.j1])
    | succ kj5 =>
     have H := HA.out
     clear HA
     simp only [spec_ReachIn.j1] at H
     by_cases c14 : x15_5 = true
     ·subst c14
      have H1 : ((spec_PathIn.f kj5 a0_0 a0_1 l0_2 a1 x6_1).bind fun t504 => (if (t504.length : Int) > 0 then (if x5_1.length < 17592186044416 then (spec_ReachIn.l0 kj5 a1 (x5_1 ++ [x6_1]) (wrap64 (x6_1 + 1)) a0_0 a0_1 l0_2) else (none)) else (spec_ReachIn.l0 kj5 a1 x5_1 (wrap64 (x6_1 + 1)) a0_0 a0_1 l0_2))) = some r := by rw [if_pos rfl] at H; exact H
      clear H
      have H := H1
      clear H1
      replace H := Option.bind_eq_some_iff.mp H
      obtain ⟨t504, A150, H⟩ := H
      replace H : (if (t504.length : Int) > 0 then (if x5_1.length < 17592186044416 then (spec_ReachIn.l0 kj5 a1 (x5_1 ++ [x6_1]) (wrap64 (x6_1 + 1)) a0_0 a0_1 l0_2) else (none)) else (spec_ReachIn.l0 kj5 a1 x5_1 (wrap64 (x6_1 + 1)) a0_0 a0_1 l0_2)) = some r := H
      have A15 := Aside0.mk A150
      clear A150
      by_cases c16 : (t504.length : Int) > 0
      ·rw [if_pos c16] at H
       have c16b0 : decide (0 < (t504.length : Int)) = true := decide_eq_true c16
       have c16b1 : decide (0 < t504.length) = true := decide_eq_true (by omega)
       clear c16
       by_cases c17 : x5_1.length < 17592186044416
       ·rw [if_pos c17] at H
        have LMc17 := Aside0.mk c17
        clear c17
        obtain ⟨y507, hy507⟩ : ∃ y_ : List Int, y_ = (x5_1 ++ [x6_1]) := ⟨_, rfl⟩
        replace H : (spec_ReachIn.l0 kj5 a1 y507 (wrap64 (x6_1 + 1)) a0_0 a0_1 l0_2) = some r := by first | (rw [hy507]; with_reducible exact H) | (have H2_ := (Option.bind_some _ _).symm.trans H; rw [hy507]; with_reducible exact H2_) | (have H2_ := (Option.bind_some _ _).symm.trans H; with_reducible exact H2_) | with_reducible exact H | (rw [hy507]; exact H) | exact H
        have Ny507 := Aside0.mk hy507
        clear hy507
        have H' := Aside0.mk H
        clear H
        have hcz18_0 : wc.cell? ⟨gb499, 0, none⟩ = some (.int .i64 a0_0) := (blk_cell BK499.out 0).trans rfl
        have hcz18_1 : wc.cell? ⟨gb499, 1, none⟩ = some (.int .i64 a0_1) := (blk_cell BK499.out 1).trans rfl
        have hcz18_2 : wc.cell? ⟨gb499, 2, none⟩ = some (.slice A0_2 l0_2.length c0_2) := (blk_cell BK499.out 2).trans rfl
        have hfz18_0 := blk_frozen BK499.out 0
        have hfz18_1 := blk_frozen BK499.out 1
        have hfz18_2 := blk_frozen BK499.out 2
        go_wp2_with (first | ((with_reducible refine gate_callee (f := 29) rfl ?_); refine goesL_ (some 21) rfl rfl Try.func29 (by kernel_rfl) rfl #[.agg #[.int .i64 a0_0, .int .i64 a0_1, .slice A0_2 l0_2.length c0_2], .int .i64 a1, .int .i64 x6_1] rfl (by (try simp only [List.map_toArray, List.map_cons, List.map_nil]); first | done | rfl | (simp only [List.length_drop, List.length_take]; rfl)) ?_; (with_reducible refine (spec_PathIn.calls kj5 a0_0 a0_1 _ _ l0_2 a1 x6_1 t504 _ ?side1 ?side2 A15.out).mono ?_); (case side1 => repeat (first | exact (Kd.C_below HR0_2.out HB.out) | (with_reducible refine Kd.C_alloc ?_ _) | (with_reducible refine Kd.C_drewN ?_ _) | (with_reducible refine Kd.C_drew ?_))); (case side2 => exact HC0_2.out); rintro e w19 ⟨v505, rfl, ho0, hb⟩; refine ⟨_, rfl, ?_⟩; have n0_ := Aside0.mk (Kd.R_elder' (by (with_reducible repeat (first | apply Kd.R_alloc | apply Kd.R_drewN | apply Kd.R_drew)); exact HO_5.out) (Kd.R_base ho0) hb); have n1_ := Aside0.mk (Kd.R_lower (Kd.R_new' ho0 (Kd.R_lt (by (with_reducible repeat (first | apply Kd.R_alloc | apply Kd.R_drewN | apply Kd.R_drew)); exact HO_5.out))) (below_size (by repeat (first | (with_reducible first | exact HB.out | apply below_alloc | apply pw_below_drewN | apply below_drew1 | refine below_set ?_ GE499.out) | exact HB.out)))); have n2_ := Aside0.mk (blk_below (g := gb499) (o := .cells #[.int .i64 a0_0, .int .i64 a0_1, .slice A0_2 l0_2.length c0_2] 25 (0, 0)) (by (with_reducible repeat (first | refine blk_drewN ?_ _ | refine blk_drew ?_ | refine blk_alloc ?_ _)); exact BK499.out) hb); have n3_ := Aside0.mk (below_step (by repeat (first | (with_reducible first | exact HB.out | apply below_alloc | apply pw_below_drewN | apply below_drew1 | refine below_set ?_ GE499.out) | exact HB.out)) hb); clear HO_5; clear BK499; clear HB; have HO_5 := n0_; have HO506 := n1_; have BK499 := n2_; have HB := n3_; clear n0_ n1_ n2_ n3_; (try clear hb); (try clear hb2); (try clear hk); (try clear hi); (try clear ho0); obtain ⟨Ao20, co20, eo20⟩ := Kd.R_slice HO506.out; subst eo20) | ((with_reducible refine gate_builtin (b := .append) (xs := #[.tmp 24, .tmp 26]) rfl ?_); at_builtin; refine Kd.R_append (Kd.int .i64) (w0 := w) w.heap.size rfl (.tmp 24) (.tmp 26) 23 3 (.int .i64 0) 8 rfl Try.underlying23 info3 rfl (by decide) (by omega) u5 x5_1 x6_1 [.int .i64 x6_1] (fun k_ => some k_ ≠ (.slice Ao20 t504.length co20 : Value).ownBlock) (fun _ => False) rfl rfl ?aP (fun _ hk => hk.elim) ?aF ?aO ?aB ?aS ?aL ?_; (case aP => exact rfl); (case aB => exact (by repeat (first | (with_reducible first | exact HB.out | apply below_alloc | apply pw_below_drewN | apply below_drew1 | refine below_set ?_ GE499.out) | exact HB.out))); (case aF => exact (fun k_ hk => Kd.fresh' (Kd.R_lt (by (with_reducible repeat (first | apply Kd.R_alloc | apply Kd.R_drewN | apply Kd.R_drew)); exact HO506.out)) k_ hk)); (case aO => exact (by (with_reducible repeat (first | apply Kd.R_alloc | apply Kd.R_drewN | apply Kd.R_drew)); exact Kd.R_mono HO_5.out (fun _ hk => hk.2))); (case aS => exact (below_size (by repeat (first | (with_reducible first | exact HB.out | apply below_alloc | apply pw_below_drewN | apply below_drew1 | refine below_set ?_ GE499.out) | exact HB.out)))); (case aL => have := LMc17.out; omega); intro v508 w21 ho hb hg hat; rw [← Ny507.out] at ho; have n0_ := Aside0.mk (blk_grown (g := gb499) (o := .cells #[.int .i64 a0_0, .int .i64 a0_1, .slice A0_2 l0_2.length c0_2] 25 (0, 0)) (by (with_reducible repeat (first | refine blk_drewN ?_ _ | refine blk_drew ?_ | refine blk_alloc ?_ _)); exact BK499.out) hg (Kd.R_ne HO_5.out BK499.out (by decide))); have n1_ := Aside0.mk (Kd.R_after (ok := (fun _ => True)) (by (with_reducible repeat (first | apply Kd.R_alloc | apply Kd.R_drewN | apply Kd.R_drew)); exact HO506.out) hg hat); have n2_ := Aside0.mk (hb); have n3_ := Aside0.mk (ho); clear BK499; clear HO506; clear HB; clear HO_5; have BK499 := n0_; have HO506 := n1_; have HB := n2_; have HO509 := n3_; clear n0_ n1_ n2_ n3_; clear ho hb hg hat))
        go_roundg kj5
        case measure => have := HK1.out; have := HJ5.out; omega
        case rel => exact ⟨(y507), (wrap64 (x6_1 + 1)), (by first | rfl | (simp; done) | (simp [*]; done)), H', ⟨by have := HK1.out; have := HJ5.out; omega⟩, ⟨by (with_reducible repeat (first | apply Kd.R_alloc | apply Kd.R_drewN | apply Kd.R_drew)); exact Kd.R_mono HO509.out (fun _ hk => trivial)⟩, ⟨by (with_reducible repeat (first | refine blk_drewN ?_ _ | refine blk_drew ?_ | refine blk_alloc ?_ _)); exact BK499.out⟩, ⟨by repeat (first | (with_reducible first | exact HB.out | apply below_alloc | apply pw_below_drewN | apply below_drew1 | refine below_set ?_ GE499.out) | exact HB.out)⟩⟩
       ·rw [if_neg c17] at H
        exact absurd H (by simp)
      ·rw [if_neg c16] at H
       have c16b0 : decide (0 < (t504.length : Int)) = false := decide_eq_false c16
       have c16b1 : decide (0 < t504.length) = false := decide_eq_false (by omega)
       clear c16
       have H' := Aside0.mk H
       clear H
       have hcz22_0 : wc.cell? ⟨gb499, 0, none⟩ = some (.int .i64 a0_0) := (blk_cell BK499.out 0).trans rfl
       have hcz22_1 : wc.cell? ⟨gb499, 1, none⟩ = some (.int .i64 a0_1) := (blk_cell BK499.out 1).trans rfl
       have hcz22_2 : wc.cell? ⟨gb499, 2, none⟩ = some (.slice A0_2 l0_2.length c0_2) := (blk_cell BK499.out 2).trans rfl
       have hfz22_0 := blk_frozen BK499.out 0
       have hfz22_1 := blk_frozen BK499.out 1
       have hfz22_2 := blk_frozen BK499.out 2
       go_wp2_with (first | ((with_reducible refine gate_callee (f := 29) rfl ?_); refine goesL_ (some 21) rfl rfl Try.func29 (by kernel_rfl) rfl #[.agg #[.int .i64 a0_0, .int .i64 a0_1, .slice A0_2 l0_2.length c0_2], .int .i64 a1, .int .i64 x6_1] rfl (by (try simp only [List.map_toArray, List.map_cons, List.map_nil]); first | done | rfl | (simp only [List.length_drop, List.length_take]; rfl)) ?_; (with_reducible refine (spec_PathIn.calls kj5 a0_0 a0_1 _ _ l0_2 a1 x6_1 t504 _ ?side1 ?side2 A15.out).mono ?_); (case side1 => repeat (first | exact (Kd.C_below HR0_2.out HB.out) | (with_reducible refine Kd.C_alloc ?_ _) | (with_reducible refine Kd.C_drewN ?_ _) | (with_reducible refine Kd.C_drew ?_))); (case side2 => exact HC0_2.out); rintro e w23 ⟨v505, rfl, ho0, hb⟩; refine ⟨_, rfl, ?_⟩; have n0_ := Aside0.mk (Kd.R_elder' (by (with_reducible repeat (first | apply Kd.R_alloc | apply Kd.R_drewN | apply Kd.R_drew)); exact HO_5.out) (Kd.R_base ho0) hb); have n1_ := Aside0.mk (Kd.R_lower (Kd.R_new' ho0 (Kd.R_lt (by (with_reducible repeat (first | apply Kd.R_alloc | apply Kd.R_drewN | apply Kd.R_drew)); exact HO_5.out))) (below_size (by repeat (first | (with_reducible first | exact HB.out | apply below_alloc | apply pw_below_drewN | apply below_drew1 | refine below_set ?_ GE499.out) | exact HB.out)))); have n2_ := Aside0.mk (blk_below (g := gb499) (o := .cells #[.int .i64 a0_0, .int .i64 a0_1, .slice A0_2 l0_2.length c0_2] 25 (0, 0)) (by (with_reducible repeat (first | refine blk_drewN ?_ _ | refine blk_drew ?_ | refine blk_alloc ?_ _)); exact BK499.out) hb); have n3_ := Aside0.mk (below_step (by repeat (first | (with_reducible first | exact HB.out | apply below_alloc | apply pw_below_drewN | apply below_drew1 | refine below_set ?_ GE499.out) | exact HB.out)) hb); clear HO_5; clear BK499; clear HB; have HO_5 := n0_; have HO506 := n1_; have BK499 := n2_; have HB := n3_; clear n0_ n1_ n2_ n3_; (try clear hb); (try clear hb2); (try clear hk); (try clear hi); (try clear ho0); obtain ⟨Ao24, co24, eo24⟩ := Kd.R_slice HO506.out; subst eo24))
       go_roundg kj5
       case measure => have := HK1.out; have := HJ5.out; omega
       case rel => exact ⟨(x5_1), (wrap64 (x6_1 + 1)), (by first | rfl | (simp; done) | (simp [*]; done)), H', ⟨by have := HK1.out; have := HJ5.out; omega⟩, ⟨by (with_reducible repeat (first | apply Kd.R_alloc | apply Kd.R_drewN | apply Kd.R_drew)); exact Kd.R_mono HO_5.out (fun _ hk => trivial)⟩, ⟨by (with_reducible repeat (first | refine blk_drewN ?_ _ | refine blk_drew ?_ | refine blk_alloc ?_ _)); exact BK499.out⟩, ⟨by repeat (first | (with_reducible first | exact HB.out | apply below_alloc | apply pw_below_drewN | apply below_drew1 | refine below_set ?_ GE499.out) | exact HB.out)⟩⟩
     ·replace c14 := Bool.eq_false_iff.mpr c14
      subst c14
      have H1 : (some x5_1) = some r := by rw [if_neg (show ¬ (false = true) by decide)] at H; exact H
      clear H
      have H := H1
      clear H1
      obtain rfl := Option.some.inj H
      go_wp2
      go_ret
      exact ⟨_, by first | rfl | (simp [errW_none, errW_some] <;> rfl) | (simp [*, errW_none, errW_some] <;> rfl), by (with_reducible repeat (first | apply Kd.R_alloc | apply Kd.R_drewN | apply Kd.R_drew)); exact HO_5.out, by repeat (first | (with_reducible first | exact HB.out | apply below_alloc | apply pw_below_drewN | apply below_drew1 | refine below_set ?_ GE499.out) | exact HB.out)⟩

-- LIB hasl
/-- A number is in a list. -/
def hasL (l : List Int) (x : Int) : Bool := l.any fun y => decide (y = x)
theorem hasL_cons (y : Int) (l : List Int) (x : Int) : hasL (y :: l) x = (decide (y = x) || hasL l x) := rfl
theorem hasL_iff (l : List Int) (x : Int) : hasL l x = true ↔ x ∈ l := by
  unfold hasL
  rw [List.any_eq_true]
  constructor
  · rintro ⟨y, h, e⟩
    rw [← of_decide_eq_true e]; exact h
  · intro h
    exact ⟨x, h, decide_eq_true rfl⟩

-- LIB hasc
theorem index_at (l : List Int) (x : Int) (hl : l.length ≤ 9223372036854775807) (d : Nat) : ∀ (k i : Nat), i + d = l.length → d < k → ∃ r, slices_Index_int_int.l0 k l x l.length (i : Int) = some r ∧ decide (r ≥ 0) = hasL (l.drop i) x := by
  induction d with
  | zero =>
    intro k i h1 hk
    obtain ⟨k, rfl⟩ : ∃ m, k = m + 1 := ⟨k - 1, by omega⟩
    simp only [slices_Index_int_int.l0]
    rw [if_neg (by omega), List.drop_of_length_le (by omega)]
    exact ⟨-1, rfl, rfl⟩
  | succ d ih =>
    intro k i h1 hk
    obtain ⟨k, rfl⟩ : ∃ m, k = m + 1 := ⟨k - 1, by omega⟩
    simp only [slices_Index_int_int.l0]
    rw [if_pos (by omega), if_pos (by omega), if_pos (by omega), rd_get l i (by omega), wrap_succ (show i < l.length by omega) (by omega), List.drop_eq_getElem_cons (show i < l.length by omega), hasL_cons]
    by_cases c : l[i] = x
    · rw [if_pos c.symm, decide_eq_true c, Bool.true_or]
      exact ⟨i, rfl, by simp⟩
    · rw [if_neg (fun e => c e.symm), decide_eq_false c, Bool.false_or]
      exact ih k (i + 1) (by omega) (by omega)
theorem contains_eq (l : List Int) (x : Int) (hl : l.length ≤ 9223372036854775807) (k : Nat) (hk : l.length < k) : slices_Contains_int_int.f k l x = some (hasL l x) := by
  obtain ⟨r, h1, h2⟩ := index_at l x hl l.length k 0 (by omega) hk
  unfold slices_Contains_int_int.f slices_Index_int_int.f
  have h1' : slices_Index_int_int.l0 k l x l.length 0 = some r := h1
  rw [h1', Option.bind_some, h2, List.drop_zero]

-- LIB phas
theorem l10_at (l : List Int) (x : Int) (hl : l.length ≤ 9223372036854775807) (d : Nat) : ∀ (k i : Nat), i + d = l.length → d < k → spec_l10Has.l0 k l x (i : Int) = some (hasL (l.drop i) x) := by
  induction d with
  | zero =>
    intro k i h1 hk
    obtain ⟨k, rfl⟩ : ∃ m, k = m + 1 := ⟨k - 1, by omega⟩
    simp only [spec_l10Has.l0]
    rw [if_neg (by omega), List.drop_of_length_le (by omega)]
    rfl
  | succ d ih =>
    intro k i h1 hk
    obtain ⟨k, rfl⟩ : ∃ m, k = m + 1 := ⟨k - 1, by omega⟩
    simp only [spec_l10Has.l0]
    rw [if_pos (by omega), if_pos (by omega), rd_get l i (by omega), wrap_succ (show i < l.length by omega) (by omega), ih k (i + 1) (by omega) (by omega), List.drop_eq_getElem_cons (show i < l.length by omega), hasL_cons]
    by_cases c : l[i] = x
    · rw [if_pos c, decide_eq_true c, Bool.true_or]
    · rw [if_neg c, decide_eq_false c, Bool.false_or]
theorem l10_eq (l : List Int) (x : Int) (hl : l.length ≤ 9223372036854775807) (k : Nat) (hk : l.length < k) : spec_l10Has.f k l x = some (hasL l x) := l10_at l x hl l.length k 0 (by omega) hk

-- LIB p17
theorem l1In_is (n a b : Int) : spec_l1In.f n a b = some (decide (a ≤ n) && decide (n ≤ b)) := by
  unfold spec_l1In.f
  by_cases h : n ≥ a
  · rw [if_pos h, decide_eq_true (show a ≤ n from h), Bool.true_and]
  · rw [if_neg h, decide_eq_false (show ¬ a ≤ n from h), Bool.false_and]
/-- Frames go over a link. -/
def opB (h : Int) (c : List Int) (x : Int) : Bool := if c.length = 0 then x != h else !hasL c x
theorem iopen_eq (n h : Int) (c : List Int) (x : Int) (hl : c.length ≤ 9223372036854775807) (k : Nat) (hk : c.length < k) : impl_Ring_open.f k n h c x = some (opB h c x) := by
  unfold impl_Ring_open.f opB
  by_cases e : c.length = 0
  · rw [if_pos (by omega), if_pos e]
  · rw [if_neg (by omega), if_neg e, contains_eq c x hl k hk, Option.bind_some]
theorem sopen_eq (n h : Int) (c : List Int) (x : Int) (hl : c.length ≤ 9223372036854775807) (k : Nat) (hk : c.length < k) : spec_l17Open.f k n h c x = some (opB h c x) := by
  unfold spec_l17Open.f opB
  by_cases e : c.length = 0
  · rw [if_pos (by omega), if_pos e]
  · rw [if_neg (by omega), if_neg e, l10_eq c x hl k hk, Option.bind_some]
theorem ring_at (n h : Int) (c : List Int) (hl : c.length ≤ 9223372036854775807) (d : Nat) : ∀ (k i : Nat), 1 ≤ i → i + d = c.length → d < k → spec_RingValid.l0 k (i : Int) n h c = some (((c.drop i).all (linkB n) && ascL (c.drop (i - 1))) && ((decide (3 ≤ n) && decide (n ≤ 10)) && linkB n h)) := by
  induction d with
  | zero =>
    intro k i h1 h2 hk
    obtain ⟨k, rfl⟩ : ∃ m, k = m + 1 := ⟨k - 1, by omega⟩
    simp only [spec_RingValid.l0]
    rw [if_neg (by omega), l1In_is, l1In_is, Option.bind_some, List.drop_of_length_le (show c.length ≤ i by omega), List.drop_eq_getElem_cons (show i - 1 < c.length by omega), show i - 1 + 1 = c.length by omega, List.drop_length]
    unfold linkB
    cases (decide (3 ≤ n) && decide (n ≤ 10)) <;> rfl
  | succ d ih =>
    intro k i h1 h2 hk
    obtain ⟨k, rfl⟩ : ∃ m, k = m + 1 := ⟨k - 1, by omega⟩
    have e1 : wrap64 ((i : Int) - 1) = ((i - 1 : Nat) : Int) := by unfold wrap64; omega
    simp only [spec_RingValid.l0]
    rw [e1, wrap_succ (show i < c.length by omega) (by omega), if_pos (by omega), if_pos (by omega), if_pos (show (i : Int) > 0 by omega), if_pos (by omega), if_pos (by omega), l1In_is, Option.bind_some, rd_get c i (by omega), rd_get c (i - 1) (by omega), ih k (i + 1) (by omega) (by omega) (by omega), List.drop_eq_getElem_cons (show i - 1 < c.length by omega), show i - 1 + 1 = i by omega, List.drop_eq_getElem_cons (show i < c.length by omega), ascL, List.all_cons, show i + 1 - 1 = i by omega, List.drop_eq_getElem_cons (show i < c.length by omega)]
    have hp : linkB n c[i] = (decide (0 ≤ c[i]) && decide (c[i] ≤ wrap64 (n - 1))) := rfl
    rw [← hp]
    cases linkB n c[i] with
    | false => rw [if_neg (by decide)]; simp
    | true =>
      rw [if_pos rfl]
      by_cases q : c[i - 1] ≥ c[i]
      · rw [if_pos q, decide_eq_false (show ¬ c[i - 1] < c[i] by omega)]; simp
      · rw [if_neg q, decide_eq_true (show c[i - 1] < c[i] by omega)]; simp
theorem sring_eq (n h : Int) (c : List Int) (hl : c.length ≤ 9223372036854775807) (k : Nat) (hk : c.length < k) : spec_RingValid.f k n h c = some (ringB n h c) := by
  unfold spec_RingValid.f ringB
  obtain ⟨k, rfl⟩ : ∃ m, k = m + 1 := ⟨k - 1, by omega⟩
  match c, hl, hk with
  | [], _, _ =>
    simp only [spec_RingValid.l0]
    rw [if_neg (by simp), l1In_is, l1In_is, Option.bind_some]
    unfold linkB
    cases (decide (3 ≤ n) && decide (n ≤ 10)) with
    | false => rfl
    | true =>
      rw [if_pos rfl, Option.bind_some]
      simp [ascL]
  | x :: t, hl, hk =>
    have h1 := ring_at n h (x :: t) hl t.length k 1 (by omega) (by simp; omega) (by simp at hk; omega)
    have hx : rd (x :: t) 0 = x := rfl
    simp only [spec_RingValid.l0]
    rw [if_pos (by simp only [List.length_cons]; omega), if_pos (by omega), l1In_is, Option.bind_some, hx, List.all_cons]
    have hp : linkB n x = (decide (0 ≤ x) && decide (x ≤ wrap64 (n - 1))) := rfl
    rw [← hp]
    cases linkB n x with
    | false => rw [if_neg (by decide)]; simp
    | true =>
      rw [if_pos rfl, if_neg (by decide), wrap_eq (by decide) (by decide)]
      refine Eq.trans h1 ?_
      simp only [List.drop_succ_cons, List.drop_zero, Nat.sub_self, Bool.true_and]
      cases (decide (3 ≤ n) && decide (n ≤ 10)) <;> cases linkB n h <;> cases t.all (linkB n) <;> cases ascL (x :: t) <;> rfl
theorem iring_eq (n h : Int) (c : List Int) : impl_RingValid.f n h c = some (ringB n h c) := rfl
/-- The next station to the right, to the left. -/
def nxS (n x : Int) : Int := if x + 1 < n then x + 1 else 0
def pvS (n x : Int) : Int := if 0 < x then x - 1 else n - 1
theorem nxS_eq {n x : Int} (hn : 3 ≤ n ∧ n ≤ 10) (hx : 0 ≤ x ∧ x < n) : Int.tmod (wrap64 (wrap64 (x + 1) + n)) n = nxS n x := by
  rw [wrap_eq (x := x + 1) (by omega) (by omega), wrap_eq (by omega) (by omega), Int.tmod_eq_emod_of_nonneg (by omega)]
  unfold nxS
  have : n = 3 ∨ n = 4 ∨ n = 5 ∨ n = 6 ∨ n = 7 ∨ n = 8 ∨ n = 9 ∨ n = 10 := by omega
  rcases this with rfl | rfl | rfl | rfl | rfl | rfl | rfl | rfl <;> split <;> omega
theorem nxS_eq1 {n x : Int} (hn : 3 ≤ n ∧ n ≤ 10) (hx : 0 ≤ x ∧ x < n) : Int.tmod (wrap64 (x + 1)) n = nxS n x := by
  rw [wrap_eq (x := x + 1) (by omega) (by omega), Int.tmod_eq_emod_of_nonneg (by omega)]
  unfold nxS
  have : n = 3 ∨ n = 4 ∨ n = 5 ∨ n = 6 ∨ n = 7 ∨ n = 8 ∨ n = 9 ∨ n = 10 := by omega
  rcases this with rfl | rfl | rfl | rfl | rfl | rfl | rfl | rfl <;> split <;> omega
theorem pvS_eq {n x : Int} (hn : 3 ≤ n ∧ n ≤ 10) (hx : 0 ≤ x ∧ x < n) : Int.tmod (wrap64 (wrap64 (x + -1) + n)) n = pvS n x := by
  rw [wrap_eq (x := x + -1) (by omega) (by omega), wrap_eq (by omega) (by omega), Int.tmod_eq_emod_of_nonneg (by omega)]
  unfold pvS
  have : n = 3 ∨ n = 4 ∨ n = 5 ∨ n = 6 ∨ n = 7 ∨ n = 8 ∨ n = 9 ∨ n = 10 := by omega
  rcases this with rfl | rfl | rfl | rfl | rfl | rfl | rfl | rfl <;> split <;> omega
theorem pvS_eq1 {n x : Int} (hn : 3 ≤ n ∧ n ≤ 10) (hx : 0 ≤ x ∧ x < n) : Int.tmod (wrap64 (wrap64 (x + n) - 1)) n = pvS n x := by
  rw [wrap_eq (x := x + n) (by omega) (by omega), wrap_eq (by omega) (by omega), Int.tmod_eq_emod_of_nonneg (by omega)]
  unfold pvS
  have : n = 3 ∨ n = 4 ∨ n = 5 ∨ n = 6 ∨ n = 7 ∨ n = 8 ∨ n = 9 ∨ n = 10 := by omega
  rcases this with rfl | rfl | rfl | rfl | rfl | rfl | rfl | rfl <;> split <;> omega
/-- A ring seen from a link that is not open: its stations in a row, the link behind the last one. -/
structure RowS (n h : Int) (c : List Int) (N : Nat) (st : Nat → Int) : Prop where
  n_eq : n = N
  n3 : 3 ≤ N
  n10 : N ≤ 10
  rng : ∀ i, i < N → 0 ≤ st i ∧ st i < n
  nx : ∀ i, i + 1 < N → nxS n (st i) = st (i + 1)
  pv : ∀ i, i + 1 < N → pvS n (st (i + 1)) = st i
  pv0 : pvS n (st 0) = st (N - 1)
  inj : ∀ i j, i < N → j < N → st i = st j → i = j
  cls : opB h c (st (N - 1)) = false
  sur : ∀ x, 0 ≤ x → x < n → ∃ i, i < N ∧ st i = x
  len : c.length ≤ 1000
def stZ (n z : Int) (i : Nat) : Int := if z + 1 + i < n then z + 1 + i else z + 1 + i - n
theorem rowS_of {n h : Int} {c : List Int} (hn : 3 ≤ n ∧ n ≤ 10) {z : Int} (hz : 0 ≤ z ∧ z < n) (ho : opB h c z = false) (hc : c.length ≤ 1000) : RowS n h c n.toNat (stZ n z) := by
  refine ⟨by omega, by omega, by omega, fun i hi => ?_, fun i hi => ?_, fun i hi => ?_, ?_, fun i j hi hj e => ?_, ?_, fun x h0 h1 => ?_, hc⟩
  · unfold stZ; split <;> omega
  · unfold stZ nxS; split <;> split <;> (try split) <;> omega
  · unfold stZ pvS; split <;> split <;> (try split) <;> omega
  · unfold stZ pvS; split <;> split <;> (try split) <;> omega
  · unfold stZ at e; split at e <;> split at e <;> omega
  · have : stZ n z (n.toNat - 1) = z := by unfold stZ; split <;> omega
    rw [this]; exact ho
  · refine ⟨(if z < x then x - z - 1 else x - z - 1 + n).toNat, ?_, ?_⟩
    · split <;> omega
    · unfold stZ; split <;> split <;> omega

-- LIB p17w
/-- The d stations behind the i-th one, to the right; are all links on the way open. -/
def upL (st : Nat → Int) : Nat → Nat → List Int
  | 0, _ => []
  | d + 1, i => st (i + 1) :: upL st d (i + 1)
def opR (op : Int → Bool) (st : Nat → Int) : Nat → Nat → Bool
  | 0, _ => true
  | d + 1, i => op (st i) && opR op st d (i + 1)
/-- The same to the left. -/
def dnL (st : Nat → Int) : Nat → Nat → List Int
  | 0, _ => []
  | d + 1, i => st (i - 1) :: dnL st d (i - 1)
def opL (op : Int → Bool) (st : Nat → Int) : Nat → Nat → Bool
  | 0, _ => true
  | d + 1, i => op (st (i - 1)) && opL op st d (i - 1)

theorem al_up {n h : Int} {c : List Int} {N : Nat} {st : Nat → Int} (S : RowS n h c N st) (d : Nat) : ∀ (i : Nat) (out : List Int) (k : Nat), i + d < N → out.length + d ≤ 1000 → c.length + d + 2 < k → impl_Ring_along.l0 k (st i) (st (i + d)) 1 out n h c = some (if opR (opB h c) st d i = true then out ++ upL st d i else []) := by
  have hn := S.n_eq
  have h3 := S.n3
  have h10 := S.n10
  have hc := S.len
  induction d with
  | zero =>
    intro i out k h1 h2 hk
    obtain ⟨k, rfl⟩ : ∃ m, k = m + 1 := ⟨k - 1, by omega⟩
    simp only [impl_Ring_along.l0]
    rw [opR, upL, Nat.add_zero, if_pos rfl, if_pos rfl, List.append_nil]
  | succ d ih =>
    intro i out k h1 h2 hk
    obtain ⟨k, rfl⟩ : ∃ m, k = m + 1 := ⟨k - 1, by omega⟩
    have hne : st i ≠ st (i + (d + 1)) := fun e => by have := S.inj _ _ (by omega) (by omega) e; omega
    have hr := S.rng i (by omega)
    have hx := S.nx i (by omega)
    have ih' := ih (i + 1) (out ++ [st (i + 1)]) k (by omega) (by simp; omega) (by omega)
    rw [show i + 1 + d = i + (d + 1) by omega] at ih'
    simp only [impl_Ring_along.l0]
    rw [opR, upL, if_neg hne, if_neg (show ¬ n = 0 by omega), if_neg (show ¬ (1 : Int) < 0 by decide), iopen_eq n h c (st i) (by omega) k (by omega), Option.bind_some, nxS_eq (by omega) hr, hx]
    cases opB h c (st i) with
    | false => rw [if_neg (by decide), if_neg (by simp)]
    | true =>
      rw [if_pos rfl, if_pos (by omega), ih', Bool.true_and, List.append_assoc]
      rfl
theorem al_cross {n h : Int} {c : List Int} {N : Nat} {st : Nat → Int} (S : RowS n h c N st) (e : Nat) : ∀ (i j : Nat) (out : List Int) (k : Nat), i + e = N - 1 → j < i → out.length + e ≤ 1000 → c.length + e + 2 < k → impl_Ring_along.l0 k (st i) (st j) 1 out n h c = some [] := by
  have hn := S.n_eq
  have h3 := S.n3
  have h10 := S.n10
  have hc := S.len
  induction e with
  | zero =>
    intro i j out k h1 h2 h4 hk
    obtain ⟨k, rfl⟩ : ∃ m, k = m + 1 := ⟨k - 1, by omega⟩
    have hne : st i ≠ st j := fun e => by have := S.inj _ _ (by omega) (by omega) e; omega
    have hcl := S.cls
    rw [← show i = N - 1 by omega] at hcl
    simp only [impl_Ring_along.l0]
    rw [if_neg hne, if_neg (show ¬ n = 0 by omega), if_neg (show ¬ (1 : Int) < 0 by decide), iopen_eq n h c (st i) (by omega) k (by omega), Option.bind_some, hcl, if_neg (by decide)]
  | succ e ih =>
    intro i j out k h1 h2 h4 hk
    obtain ⟨k, rfl⟩ : ∃ m, k = m + 1 := ⟨k - 1, by omega⟩
    have hne : st i ≠ st j := fun e => by have := S.inj _ _ (by omega) (by omega) e; omega
    have hr := S.rng i (by omega)
    have hx := S.nx i (by omega)
    simp only [impl_Ring_along.l0]
    rw [if_neg hne, if_neg (show ¬ n = 0 by omega), if_neg (show ¬ (1 : Int) < 0 by decide), iopen_eq n h c (st i) (by omega) k (by omega), Option.bind_some, nxS_eq (by omega) hr, hx]
    cases opB h c (st i) with
    | false => rw [if_neg (by decide)]
    | true =>
      rw [if_pos rfl, if_pos (by omega)]
      exact ih (i + 1) j _ k (by omega) (by omega) (by simp; omega) (by omega)
theorem al_dn {n h : Int} {c : List Int} {N : Nat} {st : Nat → Int} (S : RowS n h c N st) (d : Nat) : ∀ (i : Nat) (out : List Int) (k : Nat), i < N → d ≤ i → out.length + d ≤ 1000 → c.length + d + 2 < k → impl_Ring_along.l0 k (st i) (st (i - d)) (-1) out n h c = some (if opL (opB h c) st d i = true then out ++ dnL st d i else []) := by
  have hn := S.n_eq
  have h3 := S.n3
  have h10 := S.n10
  have hc := S.len
  induction d with
  | zero =>
    intro i out k h1 h2 h4 hk
    obtain ⟨k, rfl⟩ : ∃ m, k = m + 1 := ⟨k - 1, by omega⟩
    simp only [impl_Ring_along.l0]
    rw [opL, dnL, Nat.sub_zero, if_pos rfl, if_pos rfl, List.append_nil]
  | succ d ih =>
    intro i out k h1 h2 h4 hk
    obtain ⟨k, rfl⟩ : ∃ m, k = m + 1 := ⟨k - 1, by omega⟩
    have hne : st i ≠ st (i - (d + 1)) := fun e => by have := S.inj _ _ (by omega) (by omega) e; omega
    have hr := S.rng i (by omega)
    have hx := S.pv (i - 1) (by omega)
    rw [show i - 1 + 1 = i by omega] at hx
    have ih' := ih (i - 1) (out ++ [st (i - 1)]) k (by omega) (by omega) (by simp; omega) (by omega)
    rw [show i - 1 - d = i - (d + 1) by omega] at ih'
    simp only [impl_Ring_along.l0]
    rw [opL, dnL, if_neg hne, if_neg (show ¬ n = 0 by omega), if_pos (show (-1 : Int) < 0 by decide), pvS_eq (by omega) hr, hx, iopen_eq n h c (st (i - 1)) (by omega) k (by omega), Option.bind_some]
    cases opB h c (st (i - 1)) with
    | false => rw [if_neg (by decide), if_neg (by simp)]
    | true =>
      rw [if_pos rfl, if_pos (by omega), ih', Bool.true_and, List.append_assoc]
      rfl
theorem al_dcross {n h : Int} {c : List Int} {N : Nat} {st : Nat → Int} (S : RowS n h c N st) (i : Nat) : ∀ (j : Nat) (out : List Int) (k : Nat), i < j → j < N → out.length + i ≤ 1000 → c.length + i + 2 < k → impl_Ring_along.l0 k (st i) (st j) (-1) out n h c = some [] := by
  have hn := S.n_eq
  have h3 := S.n3
  have h10 := S.n10
  have hc := S.len
  induction i with
  | zero =>
    intro j out k h1 h2 h4 hk
    obtain ⟨k, rfl⟩ : ∃ m, k = m + 1 := ⟨k - 1, by omega⟩
    have hne : st 0 ≠ st j := fun e => by have := S.inj _ _ (by omega) (by omega) e; omega
    have hr := S.rng 0 (by omega)
    have hcl := S.cls
    have hx := S.pv0
    simp only [impl_Ring_along.l0]
    rw [if_neg hne, if_neg (show ¬ n = 0 by omega), if_pos (show (-1 : Int) < 0 by decide), pvS_eq (by omega) hr, hx, iopen_eq n h c (st (N - 1)) (by omega) k (by omega), Option.bind_some, hcl, if_neg (by decide)]
  | succ i ih =>
    intro j out k h1 h2 h4 hk
    obtain ⟨k, rfl⟩ : ∃ m, k = m + 1 := ⟨k - 1, by omega⟩
    have hne : st (i + 1) ≠ st j := fun e => by have := S.inj _ _ (by omega) (by omega) e; omega
    have hr := S.rng (i + 1) (by omega)
    have hx := S.pv i (by omega)
    simp only [impl_Ring_along.l0]
    rw [if_neg hne, if_neg (show ¬ n = 0 by omega), if_pos (show (-1 : Int) < 0 by decide), pvS_eq (by omega) hr, hx, iopen_eq n h c (st i) (by omega) k (by omega), Option.bind_some]
    cases opB h c (st i) with
    | false => rw [if_neg (by decide)]
    | true =>
      rw [if_pos rfl, if_pos (by omega)]
      exact ih j _ k (by omega) h2 (by simp; omega) (by omega)

theorem wa_up {n h : Int} {c : List Int} {N : Nat} {st : Nat → Int} (S : RowS n h c N st) (d : Nat) : ∀ (i : Nat) (out : List Int) (k : Nat), i + d < N → out.length + d ≤ 1000 → c.length + d + 2 < k → spec_l17Walk.l0 k (st (i + d)) 1 out (st i) n h c = some (if opR (opB h c) st d i = true then out ++ upL st d i else []) := by
  have hn := S.n_eq
  have h3 := S.n3
  have h10 := S.n10
  have hc := S.len
  induction d with
  | zero =>
    intro i out k h1 h2 hk
    obtain ⟨k, rfl⟩ : ∃ m, k = m + 1 := ⟨k - 1, by omega⟩
    simp only [spec_l17Walk.l0]
    rw [opR, upL, Nat.add_zero, if_pos rfl, if_pos rfl, List.append_nil]
  | succ d ih =>
    intro i out k h1 h2 hk
    obtain ⟨k, rfl⟩ : ∃ m, k = m + 1 := ⟨k - 1, by omega⟩
    have hne : st i ≠ st (i + (d + 1)) := fun e => by have := S.inj _ _ (by omega) (by omega) e; omega
    have hr := S.rng i (by omega)
    have hx := S.nx i (by omega)
    have ih' := ih (i + 1) (out ++ [st (i + 1)]) k (by omega) (by simp; omega) (by omega)
    rw [show i + 1 + d = i + (d + 1) by omega] at ih'
    simp only [spec_l17Walk.l0]
    rw [opR, upL, if_neg hne, if_neg (show ¬ (1 : Int) < 0 by decide), sopen_eq n h c (st i) (by omega) k (by omega), Option.bind_some, nxS_eq (by omega) hr, hx]
    cases opB h c (st i) with
    | false => rw [if_neg (by decide), if_neg (by simp)]
    | true =>
      rw [if_pos rfl, if_neg (show ¬ n = 0 by omega), if_pos (by omega), ih', Bool.true_and, List.append_assoc]
      rfl
theorem wa_cross {n h : Int} {c : List Int} {N : Nat} {st : Nat → Int} (S : RowS n h c N st) (e : Nat) : ∀ (i j : Nat) (out : List Int) (k : Nat), i + e = N - 1 → j < i → out.length + e ≤ 1000 → c.length + e + 2 < k → spec_l17Walk.l0 k (st j) 1 out (st i) n h c = some [] := by
  have hn := S.n_eq
  have h3 := S.n3
  have h10 := S.n10
  have hc := S.len
  induction e with
  | zero =>
    intro i j out k h1 h2 h4 hk
    obtain ⟨k, rfl⟩ : ∃ m, k = m + 1 := ⟨k - 1, by omega⟩
    have hne : st i ≠ st j := fun e => by have := S.inj _ _ (by omega) (by omega) e; omega
    have hcl := S.cls
    rw [← show i = N - 1 by omega] at hcl
    simp only [spec_l17Walk.l0]
    rw [if_neg hne, if_neg (show ¬ (1 : Int) < 0 by decide), sopen_eq n h c (st i) (by omega) k (by omega), Option.bind_some, hcl, if_neg (by decide)]
  | succ e ih =>
    intro i j out k h1 h2 h4 hk
    obtain ⟨k, rfl⟩ : ∃ m, k = m + 1 := ⟨k - 1, by omega⟩
    have hne : st i ≠ st j := fun e => by have := S.inj _ _ (by omega) (by omega) e; omega
    have hr := S.rng i (by omega)
    have hx := S.nx i (by omega)
    simp only [spec_l17Walk.l0]
    rw [if_neg hne, if_neg (show ¬ (1 : Int) < 0 by decide), sopen_eq n h c (st i) (by omega) k (by omega), Option.bind_some, nxS_eq (by omega) hr, hx]
    cases opB h c (st i) with
    | false => rw [if_neg (by decide)]
    | true =>
      rw [if_pos rfl, if_neg (show ¬ n = 0 by omega), if_pos (by omega)]
      exact ih (i + 1) j _ k (by omega) (by omega) (by simp; omega) (by omega)
theorem wa_dn {n h : Int} {c : List Int} {N : Nat} {st : Nat → Int} (S : RowS n h c N st) (d : Nat) : ∀ (i : Nat) (out : List Int) (k : Nat), i < N → d ≤ i → out.length + d ≤ 1000 → c.length + d + 2 < k → spec_l17Walk.l0 k (st (i - d)) (-1) out (st i) n h c = some (if opL (opB h c) st d i = true then out ++ dnL st d i else []) := by
  have hn := S.n_eq
  have h3 := S.n3
  have h10 := S.n10
  have hc := S.len
  induction d with
  | zero =>
    intro i out k h1 h2 h4 hk
    obtain ⟨k, rfl⟩ : ∃ m, k = m + 1 := ⟨k - 1, by omega⟩
    simp only [spec_l17Walk.l0]
    rw [opL, dnL, Nat.sub_zero, if_pos rfl, if_pos rfl, List.append_nil]
  | succ d ih =>
    intro i out k h1 h2 h4 hk
    obtain ⟨k, rfl⟩ : ∃ m, k = m + 1 := ⟨k - 1, by omega⟩
    have hne : st i ≠ st (i - (d + 1)) := fun e => by have := S.inj _ _ (by omega) (by omega) e; omega
    have hr := S.rng i (by omega)
    have hx := S.pv (i - 1) (by omega)
    rw [show i - 1 + 1 = i by omega] at hx
    have ih' := ih (i - 1) (out ++ [st (i - 1)]) k (by omega) (by omega) (by simp; omega) (by omega)
    rw [show i - 1 - d = i - (d + 1) by omega] at ih'
    simp only [spec_l17Walk.l0]
    rw [opL, dnL, if_neg hne, if_pos (show (-1 : Int) < 0 by decide), if_neg (show ¬ n = 0 by omega), pvS_eq1 (by omega) hr, hx, sopen_eq n h c (st (i - 1)) (by omega) k (by omega), Option.bind_some]
    cases opB h c (st (i - 1)) with
    | false => rw [if_neg (by decide), if_neg (by simp)]
    | true =>
      rw [if_pos rfl, if_pos (by omega), pvS_eq (by omega) hr, hx, ih', Bool.true_and, List.append_assoc]
      rfl
theorem wa_dcross {n h : Int} {c : List Int} {N : Nat} {st : Nat → Int} (S : RowS n h c N st) (i : Nat) : ∀ (j : Nat) (out : List Int) (k : Nat), i < j → j < N → out.length + i ≤ 1000 → c.length + i + 2 < k → spec_l17Walk.l0 k (st j) (-1) out (st i) n h c = some [] := by
  have hn := S.n_eq
  have h3 := S.n3
  have h10 := S.n10
  have hc := S.len
  induction i with
  | zero =>
    intro j out k h1 h2 h4 hk
    obtain ⟨k, rfl⟩ : ∃ m, k = m + 1 := ⟨k - 1, by omega⟩
    have hne : st 0 ≠ st j := fun e => by have := S.inj _ _ (by omega) (by omega) e; omega
    have hr := S.rng 0 (by omega)
    have hcl := S.cls
    have hx := S.pv0
    simp only [spec_l17Walk.l0]
    rw [if_neg hne, if_pos (show (-1 : Int) < 0 by decide), if_neg (show ¬ n = 0 by omega), pvS_eq1 (by omega) hr, hx, sopen_eq n h c (st (N - 1)) (by omega) k (by omega), Option.bind_some, hcl, if_neg (by decide)]
  | succ i ih =>
    intro j out k h1 h2 h4 hk
    obtain ⟨k, rfl⟩ : ∃ m, k = m + 1 := ⟨k - 1, by omega⟩
    have hne : st (i + 1) ≠ st j := fun e => by have := S.inj _ _ (by omega) (by omega) e; omega
    have hr := S.rng (i + 1) (by omega)
    have hx := S.pv i (by omega)
    simp only [spec_l17Walk.l0]
    rw [if_neg hne, if_pos (show (-1 : Int) < 0 by decide), if_neg (show ¬ n = 0 by omega), pvS_eq1 (by omega) hr, hx, sopen_eq n h c (st i) (by omega) k (by omega), Option.bind_some]
    cases opB h c (st i) with
    | false => rw [if_neg (by decide)]
    | true =>
      rw [if_pos rfl, if_pos (by omega)]
      rw [pvS_eq (by omega) hr, hx]
      exact ih j _ k (by omega) h2 (by simp; omega) (by omega)

/-- The stations from the i-th to the j-th one; nothing if a link on the way is not open. -/
def connB (op : Int → Bool) (st : Nat → Int) (i j : Nat) : Bool := if i ≤ j then opR op st (j - i) i else opL op st (i - j) i
def pathP (op : Int → Bool) (st : Nat → Int) (i j : Nat) : List Int := if connB op st i j = true then (if i ≤ j then st i :: upL st (j - i) i else st i :: dnL st (i - j) i) else []
theorem ipath_st {n h : Int} {c : List Int} {N : Nat} {st : Nat → Int} (S : RowS n h c N st) (i j : Nat) (hi : i < N) (hj : j < N) (k : Nat) (hk : c.length + 20 < k) : impl_Ring_path.f k n h c (st i) (st j) = some (pathP (opB h c) st i j) := by
  have h10 := S.n10
  unfold impl_Ring_path.f impl_Ring_along.f pathP connB
  by_cases hij : i ≤ j
  · have e1 := al_up S (j - i) i [st i] k (by omega) (by simp; omega) (by omega)
    rw [show i + (j - i) = j by omega] at e1
    rw [if_pos hij, if_pos hij]
    cases hop : opR (opB h c) st (j - i) i with
    | true =>
      rw [hop, if_pos rfl] at e1
      rw [e1, Option.bind_some, if_pos rfl, if_neg (by simp)]
      rfl
    | false =>
      rw [hop, if_neg (by decide)] at e1
      have hlt : i < j := by
        rcases Nat.lt_or_ge i j with g | g
        · exact g
        · have : j - i = 0 := by omega
          rw [this] at hop; cases hop
      rw [e1, Option.bind_some, if_pos (by decide), if_neg (by decide)]
      exact al_dcross S i j [st i] k hlt hj (by simp; omega) (by omega)
  · have e1 := al_cross S (N - 1 - i) i j [st i] k (by omega) (by omega) (by simp; omega) (by omega)
    have e2 := al_dn S (i - j) i [st i] k hi (by omega) (by simp; omega) (by omega)
    rw [show i - (i - j) = j by omega] at e2
    rw [e1, Option.bind_some, if_neg hij, if_neg hij, if_pos (by decide)]
    exact e2
theorem spath_st {n h : Int} {c : List Int} {N : Nat} {st : Nat → Int} (S : RowS n h c N st) (i j : Nat) (hi : i < N) (hj : j < N) (k : Nat) (hk : c.length + 20 < k) :
    ((spec_l17Walk.f k n h c (st i) (st j) 1).bind fun t337 => (if (t337.length : Int) = 0 then ((spec_l17Walk.f k n h c (st i) (st j) (-1)).bind fun t340 => (some t340)) else (some t337))) = some (pathP (opB h c) st i j) := by
  have h10 := S.n10
  unfold spec_l17Walk.f pathP connB
  by_cases hij : i ≤ j
  · have e1 := wa_up S (j - i) i [st i] k (by omega) (by simp; omega) (by omega)
    rw [show i + (j - i) = j by omega] at e1
    rw [if_pos hij, if_pos hij]
    cases hop : opR (opB h c) st (j - i) i with
    | true =>
      rw [hop, if_pos rfl] at e1
      rw [e1, Option.bind_some, if_pos rfl, if_neg (by simp; omega)]
      rfl
    | false =>
      rw [hop, if_neg (by decide)] at e1
      have hlt : i < j := by
        rcases Nat.lt_or_ge i j with g | g
        · exact g
        · have : j - i = 0 := by omega
          rw [this] at hop; cases hop
      rw [e1, Option.bind_some, if_pos (by decide), if_neg (by decide), wa_dcross S i j [st i] k hlt hj (by simp; omega) (by omega), Option.bind_some]
  · have e1 := wa_cross S (N - 1 - i) i j [st i] k (by omega) (by omega) (by simp; omega) (by omega)
    have e2 := wa_dn S (i - j) i [st i] k hi (by omega) (by simp; omega) (by omega)
    rw [show i - (i - j) = j by omega] at e2
    rw [e1, Option.bind_some, if_neg hij, if_neg hij, if_pos (by decide), e2, Option.bind_some]
    rfl
theorem opR_iff (op : Int → Bool) (st : Nat → Int) (d : Nat) : ∀ i, opR op st d i = true ↔ ∀ m, i ≤ m → m < i + d → op (st m) = true := by
  induction d with
  | zero => intro i; exact ⟨fun _ m h1 h2 => by omega, fun _ => rfl⟩
  | succ d ih =>
    intro i
    rw [opR, Bool.and_eq_true, ih]
    constructor
    · rintro ⟨h1, h2⟩ m h3 h4
      by_cases e : m = i
      · subst e; exact h1
      · exact h2 m (by omega) (by omega)
    · intro h
      exact ⟨h i (by omega) (by omega), fun m h1 h2 => h m (by omega) (by omega)⟩
theorem opL_iff (op : Int → Bool) (st : Nat → Int) (d : Nat) : ∀ i, d ≤ i → (opL op st d i = true ↔ ∀ m, i - d ≤ m → m < i → op (st m) = true) := by
  induction d with
  | zero => intro i _; exact ⟨fun _ m h1 h2 => by omega, fun _ => rfl⟩
  | succ d ih =>
    intro i hd
    rw [opL, Bool.and_eq_true, ih (i - 1) (by omega)]
    constructor
    · rintro ⟨h1, h2⟩ m h3 h4
      by_cases e : m = i - 1
      · subst e; exact h1
      · exact h2 m (by omega) (by omega)
    · intro h
      exact ⟨h (i - 1) (by omega) (by omega), fun m h1 h2 => h m (by omega) (by omega)⟩
theorem connB_iff (op : Int → Bool) (st : Nat → Int) (i j : Nat) : connB op st i j = true ↔ ∀ m, (i ≤ m ∧ m < j ∨ j ≤ m ∧ m < i) → op (st m) = true := by
  unfold connB
  by_cases h : i ≤ j
  · rw [if_pos h, opR_iff]
    exact ⟨fun g m hm => g m (by omega) (by omega), fun g m h1 h2 => g m (by omega)⟩
  · rw [if_neg h, opL_iff _ _ _ _ (by omega)]
    exact ⟨fun g m hm => g m (by omega) (by omega), fun g m h1 h2 => g m (by omega)⟩
theorem connB_trans {op : Int → Bool} {st : Nat → Int} {i j l : Nat} (h : connB op st i j = true) : connB op st i l = connB op st j l := by
  rw [connB_iff] at h
  rw [Bool.eq_iff_iff, connB_iff, connB_iff]
  constructor
  · intro g m hm
    rcases Nat.lt_or_ge m i with h1 | h1 <;> rcases Nat.lt_or_ge m j with h2 | h2 <;> rcases Nat.lt_or_ge m l with h3 | h3 <;> first | omega | exact h m (by omega) | exact g m (by omega)
  · intro g m hm
    rcases Nat.lt_or_ge m i with h1 | h1 <;> rcases Nat.lt_or_ge m j with h2 | h2 <;> rcases Nat.lt_or_ge m l with h3 | h3 <;> first | omega | exact h m (by omega) | exact g m (by omega)
theorem connB_self (op : Int → Bool) (st : Nat → Int) (i : Nat) : connB op st i i = true := by
  rw [connB_iff]
  intro m h
  omega
theorem pathP_empty (op : Int → Bool) (st : Nat → Int) (i j : Nat) : (pathP op st i j).isEmpty = !connB op st i j := by
  unfold pathP
  cases connB op st i j with
  | false => rfl
  | true => rw [if_pos rfl]; split <;> rfl
/-- The numbers from b on of which p holds. -/
def filI (p : Int → Bool) : Nat → Int → List Int
  | 0, _ => []
  | d + 1, b => if p b = true then b :: filI p d (b + 1) else filI p d (b + 1)
theorem filI_mem (p : Int → Bool) (d : Nat) : ∀ (b x : Int), x ∈ filI p d b ↔ b ≤ x ∧ x < b + d ∧ p x = true := by
  induction d with
  | zero => intro b x; simp [filI]; omega
  | succ d ih =>
    intro b x
    rw [filI]
    by_cases hp : p b = true
    · rw [if_pos hp, List.mem_cons, ih]
      constructor
      · rintro (rfl | ⟨h1, h2, h3⟩)
        · exact ⟨by omega, by omega, hp⟩
        · exact ⟨by omega, by omega, h3⟩
      · rintro ⟨h1, h2, h3⟩
        by_cases e : x = b
        · exact Or.inl e
        · exact Or.inr ⟨by omega, by omega, h3⟩
    · rw [if_neg hp, ih]
      constructor
      · rintro ⟨h1, h2, h3⟩; exact ⟨by omega, by omega, h3⟩
      · rintro ⟨h1, h2, h3⟩
        by_cases e : x = b
        · subst e; exact absurd h3 hp
        · exact ⟨by omega, by omega, h3⟩
theorem filI_congr (p q : Int → Bool) (d : Nat) : ∀ b : Int, (∀ x, b ≤ x → x < b + d → p x = q x) → filI p d b = filI q d b := by
  induction d with
  | zero => intro b _; rfl
  | succ d ih =>
    intro b h
    rw [filI, filI, h b (by omega) (by omega), ih (b + 1) (fun x h1 h2 => h x (by omega) (by omega))]
theorem filI_len (p : Int → Bool) (d : Nat) : ∀ b : Int, (filI p d b).length ≤ d := by
  induction d with
  | zero => intro b; exact Nat.le_refl _
  | succ d ih => intro b; rw [filI]; have := ih (b + 1); split <;> simp <;> omega
theorem filI_lt (p : Int → Bool) (d : Nat) : ∀ b : Int, (∃ x : Int, b ≤ x ∧ x < b + d ∧ p x = false) → (filI p d b).length < d := by
  induction d with
  | zero => rintro b ⟨x, h1, h2, _⟩; omega
  | succ d ih =>
    rintro b ⟨x, h1, h2, h3⟩
    rw [filI]
    have hl := filI_len p d (b + 1)
    by_cases hp : p b = true
    · rw [if_pos hp, List.length_cons]
      have : x ≠ b := fun e => by rw [e, hp] at h3; cases h3
      have := ih (b + 1) ⟨x, by omega, by omega, h3⟩
      omega
    · rw [if_neg hp]; omega
theorem filI_one (p : Int → Bool) (z : Int) (d : Nat) : ∀ b : Int, (∀ x : Int, b ≤ x → x < b + d → x ≠ z → p x = true) → d ≤ (filI p d b).length + 1 := by
  induction d with
  | zero => intro b _; omega
  | succ d ih =>
    intro b h
    rw [filI]
    by_cases hp : p b = true
    · rw [if_pos hp, List.length_cons]
      have := ih (b + 1) (fun x h1 h2 h3 => h x (by omega) (by omega) h3)
      omega
    · rw [if_neg hp]
      have hz : b = z := by
        by_cases e : b = z
        · exact e
        · exact absurd (h b (by omega) (by omega) e) hp
      have : ∀ (d' : Nat) (b' : Int), b < b' → (∀ x : Int, b' ≤ x → x < b' + d' → x ≠ z → p x = true) → (filI p d' b').length = d' := by
        intro d'
        induction d' with
        | zero => intro _ _ _; rfl
        | succ d' ih' =>
          intro b' h1 h2
          rw [filI, if_pos (h2 b' (by omega) (by omega) (by omega)), List.length_cons, ih' (b' + 1) (by omega) (fun x h3 h4 h5 => h2 x (by omega) (by omega) h5)]
      rw [this d (b + 1) (by omega) (fun x h1 h2 h3 => h x (by omega) (by omega) h3)]
      omega
theorem filI_all (p : Int → Bool) (d : Nat) : ∀ b : Int, (∀ x : Int, b ≤ x → x < b + d → p x = true) → (filI p d b).length = d := by
  induction d with
  | zero => intro _ _; rfl
  | succ d ih =>
    intro b h
    rw [filI, if_pos (h b (by omega) (by omega)), List.length_cons, ih (b + 1) (fun x h1 h2 => h x (by omega) (by omega))]
theorem filI_asc (p : Int → Bool) (d : Nat) : ∀ (b : Int) (i : Nat) (h : i + 1 < (filI p d b).length), (filI p d b)[i]'(by omega) < (filI p d b)[i + 1] := by
  induction d with
  | zero => intro b i h; simp [filI] at h
  | succ d ih =>
    intro b i h
    by_cases hp : p b = true
    · have e : filI p (d + 1) b = b :: filI p d (b + 1) := by rw [filI, if_pos hp]
      simp only [e] at h ⊢
      cases i with
      | zero =>
        have hm := List.getElem_mem (l := filI p d (b + 1)) (n := 0) (by simpa using h)
        rw [filI_mem] at hm
        simp only [List.getElem_cons_zero, List.getElem_cons_succ]
        omega
      | succ i =>
        simp only [List.getElem_cons_succ]
        exact ih (b + 1) i (by simpa using h)
    · have e : filI p (d + 1) b = filI p d (b + 1) := by rw [filI, if_neg hp]
      simp only [e] at h ⊢
      exact ih (b + 1) i h

-- LIB p17z
theorem asc_len (m : Int) (l : List Int) : ∀ lo : Int, ascL l = true → (∀ x ∈ l, x ≤ m) → (∀ x ∈ l.head?, lo ≤ x) → lo ≤ m + 1 → (l.length : Int) ≤ m - lo + 1 := by
  induction l with
  | nil => intro lo _ _ _ h; simp; omega
  | cons x t ih =>
    intro lo h1 h2 h3 h4
    have hx : lo ≤ x := h3 x (by simp)
    have hm := h2 x List.mem_cons_self
    have h5 : ascL t = true ∧ ∀ y ∈ t.head?, x + 1 ≤ y := by
      match t, h1 with
      | [], _ => exact ⟨rfl, by simp⟩
      | y :: s, h1 =>
        rw [ascL, Bool.and_eq_true] at h1
        exact ⟨h1.2, by have := of_decide_eq_true h1.1; simp; omega⟩
    have := ih (x + 1) h5.1 (fun y hy => h2 y (List.mem_cons_of_mem _ hy)) h5.2 (by omega)
    simp only [List.length_cons]
    omega
/-- What a valid ring is. -/
structure RingV (n h : Int) (c : List Int) : Prop where
  n3 : 3 ≤ n
  n10 : n ≤ 10
  h0 : 0 ≤ h
  hn : h < n
  cut : ∀ x ∈ c, 0 ≤ x ∧ x < n
  asc : ascL c = true
  len : c.length ≤ 10
theorem ringV_of {n h : Int} {c : List Int} (hv : ringB n h c = true) : RingV n h c := by
  unfold ringB linkB at hv
  simp only [Bool.and_eq_true, decide_eq_true_eq, List.all_eq_true] at hv
  obtain ⟨⟨a1, a2⟩, ⟨a3, a4⟩, a5, a6⟩ := hv
  have e : wrap64 (n - 1) = n - 1 := wrap_eq (by omega) (by omega)
  rw [e] at a4 a5
  have hc : ∀ x ∈ c, 0 ≤ x ∧ x < n := fun x hx => by have := a5 x hx; omega
  have hl := asc_len (n - 1) c 0 a6 (fun x hx => by have := hc x hx; omega) (fun x hx => (hc x (List.mem_of_mem_head? hx)).1) (by omega)
  exact ⟨a1, a2, a3, by omega, hc, a6, by omega⟩
/-- A link that is not open. -/
def zOf (h : Int) (c : List Int) : Int := match c with
  | [] => h
  | x :: _ => x
def posZ (n z x : Int) : Nat := (if z < x then x - z - 1 else x - z - 1 + n).toNat
theorem posZ_lt {n z x : Int} (hz : 0 ≤ z ∧ z < n) (hx : 0 ≤ x ∧ x < n) : posZ n z x < n.toNat := by unfold posZ; split <;> omega
theorem stZ_pos {n z x : Int} (hz : 0 ≤ z ∧ z < n) (hx : 0 ≤ x ∧ x < n) : stZ n z (posZ n z x) = x := by unfold stZ posZ; split <;> split <;> omega
theorem zOf_ok {n h : Int} {c : List Int} (V : RingV n h c) : 0 ≤ zOf h c ∧ zOf h c < n ∧ opB h c (zOf h c) = false := by
  match c, V with
  | [], V => exact ⟨V.h0, V.hn, by simp [zOf, opB]⟩
  | x :: t, V =>
    have := V.cut x List.mem_cons_self
    refine ⟨this.1, this.2, ?_⟩
    unfold opB zOf
    rw [if_neg (by simp), hasL_cons, decide_eq_true rfl]
    rfl
theorem rowZ {n h : Int} {c : List Int} (V : RingV n h c) {z : Int} (hz : 0 ≤ z ∧ z < n) (ho : opB h c z = false) : RowS n h c n.toNat (stZ n z) := rowS_of ⟨V.n3, V.n10⟩ hz ho (by have := V.len; omega)
def inB (n a : Int) : Bool := decide (0 ≤ a) && decide (a ≤ wrap64 (n - 1))
theorem inB_iff {n h : Int} {c : List Int} (V : RingV n h c) (a : Int) : inB n a = true ↔ 0 ≤ a ∧ a < n := by
  have h3 := V.n3
  have h10 := V.n10
  unfold inB
  rw [wrap_eq (by omega) (by omega)]
  simp
  omega
/-- The stations on the way. -/
def pathX (n h : Int) (c : List Int) (a b : Int) : List Int := if (ringB n h c && (inB n a && inB n b)) = true then pathP (opB h c) (stZ n (zOf h c)) (posZ n (zOf h c) a) (posZ n (zOf h c) b) else []
theorem pathX_at {n h : Int} {c : List Int} (hv : ringB n h c = true) {z : Int} (hz : 0 ≤ z ∧ z < n) (ho : opB h c z = false) {a b : Int} (ha : 0 ≤ a ∧ a < n) (hb : 0 ≤ b ∧ b < n) : pathX n h c a b = pathP (opB h c) (stZ n z) (posZ n z a) (posZ n z b) := by
  have V := ringV_of hv
  obtain ⟨z1, z2, z3⟩ := zOf_ok V
  have S1 := rowZ V ⟨z1, z2⟩ z3
  have S2 := rowZ V hz ho
  have e1 := ipath_st S1 _ _ (posZ_lt ⟨z1, z2⟩ ha) (posZ_lt ⟨z1, z2⟩ hb) (c.length + 21) (by omega)
  have e2 := ipath_st S2 _ _ (posZ_lt hz ha) (posZ_lt hz hb) (c.length + 21) (by omega)
  rw [stZ_pos ⟨z1, z2⟩ ha, stZ_pos ⟨z1, z2⟩ hb] at e1
  rw [stZ_pos hz ha, stZ_pos hz hb, e1] at e2
  unfold pathX
  rw [hv, (inB_iff V a).2 ha, (inB_iff V b).2 hb, if_pos (by rfl)]
  exact Option.some.inj e2
theorem ipathin_eq (n h : Int) (c : List Int) (a b : Int) (k : Nat) (hk : c.length + 30 < k) : impl_PathIn.f k n h c a b = some (pathX n h c a b) := by
  unfold impl_PathIn.f
  rw [station_eq, station_eq]
  simp only [Option.bind_some]
  have e1 : (ringB n h c && (decide (0 ≤ a) && decide (a ≤ wrap64 (n - 1)))) = (ringB n h c && inB n a) := rfl
  have e2 : (ringB n h c && (decide (0 ≤ b) && decide (b ≤ wrap64 (n - 1)))) = (ringB n h c && inB n b) := rfl
  rw [e1, e2]
  unfold pathX
  cases hv : ringB n h c with
  | false => rw [if_neg (by simp), if_neg (by simp)]
  | true =>
    have V := ringV_of hv
    cases ha : inB n a with
    | false => rw [if_neg (by simp), if_neg (by simp)]
    | true =>
      cases hb : inB n b with
      | false => rw [if_pos (by simp), if_neg (by simp), if_neg (by simp)]
      | true =>
        have ha' := (inB_iff V a).1 ha
        have hb' := (inB_iff V b).1 hb
        obtain ⟨z1, z2, z3⟩ := zOf_ok V
        have e := ipath_st (rowZ V ⟨z1, z2⟩ z3) _ _ (posZ_lt ⟨z1, z2⟩ ha') (posZ_lt ⟨z1, z2⟩ hb') k (by omega)
        rw [stZ_pos ⟨z1, z2⟩ ha', stZ_pos ⟨z1, z2⟩ hb'] at e
        rw [if_pos (by simp), if_pos (by simp), if_pos (by simp), e, Option.bind_some]
theorem spathin_eq (n h : Int) (c : List Int) (a b : Int) (hc : c.length ≤ 9223372036854775807) (k : Nat) (hk : c.length + 30 < k) : spec_PathIn.f k n h c a b = some (pathX n h c a b) := by
  obtain ⟨k, rfl⟩ : ∃ m, k = m + 1 := ⟨k - 1, by omega⟩
  unfold spec_PathIn.f
  rw [sring_eq n h c hc _ (by omega), Option.bind_some, l1In_is, l1In_is]
  simp only [spec_PathIn.j0, Option.bind_some]
  have e1 : (decide (0 ≤ a) && decide (a ≤ wrap64 (n - 1))) = inB n a := rfl
  have e2 : (decide (0 ≤ b) && decide (b ≤ wrap64 (n - 1))) = inB n b := rfl
  rw [e1, e2]
  unfold pathX
  cases hv : ringB n h c with
  | false => rw [if_neg (by simp), if_pos trivial, if_neg (by simp)]
  | true =>
    have V := ringV_of hv
    cases ha : inB n a with
    | false => rw [if_pos rfl, if_neg (by simp), if_pos trivial, if_neg (by simp)]
    | true =>
      cases hb : inB n b with
      | false => rw [if_pos rfl, if_pos rfl, if_pos (by rfl), if_neg (by simp)]
      | true =>
        have ha' := (inB_iff V a).1 ha
        have hb' := (inB_iff V b).1 hb
        obtain ⟨z1, z2, z3⟩ := zOf_ok V
        have e := spath_st (rowZ V ⟨z1, z2⟩ z3) _ _ (posZ_lt ⟨z1, z2⟩ ha') (posZ_lt ⟨z1, z2⟩ hb') k (by omega)
        rw [stZ_pos ⟨z1, z2⟩ ha', stZ_pos ⟨z1, z2⟩ hb'] at e
        rw [if_pos rfl, if_pos rfl, if_neg (by decide), if_pos (by simp)]
        exact e
theorem pathX_empty {n h : Int} {c : List Int} (hv : ringB n h c = true) {z : Int} (hz : 0 ≤ z ∧ z < n) (ho : opB h c z = false) {a b : Int} (ha : 0 ≤ a ∧ a < n) (hb : 0 ≤ b ∧ b < n) : (pathX n h c a b).isEmpty = !connB (opB h c) (stZ n z) (posZ n z a) (posZ n z b) := by
  rw [pathX_at hv hz ho ha hb, pathP_empty]
/-- The stations to which one comes. -/
def reachX (n h : Int) (c : List Int) (a : Int) : List Int := if ringB n h c = true then filI (fun b => !(pathX n h c a b).isEmpty) n.toNat 0 else []
theorem reachGo_eq (n h : Int) (c : List Int) (a : Int) (hv : ringB n h c = true) (ha : 0 ≤ a ∧ a < n) (k : Nat) (hk : c.length + 30 < k) (d : Nat) : ∀ b : Int, 0 ≤ b → b + d ≤ n → reachGo k n h c a d b = some (filI (fun b => !(pathX n h c a b).isEmpty) d b) := by
  have V := ringV_of hv
  obtain ⟨z1, z2, z3⟩ := zOf_ok V
  induction d with
  | zero => intro b _ _; rfl
  | succ d ih =>
    intro b h0 h1
    have hb' : 0 ≤ b ∧ b < n := by omega
    have e := ipath_st (rowZ V ⟨z1, z2⟩ z3) _ _ (posZ_lt ⟨z1, z2⟩ ha) (posZ_lt ⟨z1, z2⟩ hb') k (by omega)
    rw [stZ_pos ⟨z1, z2⟩ ha, stZ_pos ⟨z1, z2⟩ hb', ← pathX_at hv ⟨z1, z2⟩ z3 ha hb'] at e
    rw [reachGo, e, Option.bind_some, ih (b + 1) (by omega) (by omega), Option.bind_some, filI]
    cases (pathX n h c a b).isEmpty <;> rfl
theorem filI_false (p : Int → Bool) (d : Nat) : ∀ b : Int, (∀ x, p x = false) → filI p d b = [] := by
  induction d with
  | zero => intro _ _; rfl
  | succ d ih => intro b h; rw [filI, if_neg (by rw [h b]; decide), ih (b + 1) h]
theorem pathX_out {n h : Int} {c : List Int} {a : Int} (ha : inB n a = false) (b : Int) : pathX n h c a b = [] := by
  unfold pathX
  rw [ha]
  simp
theorem ireach_eq (n h : Int) (c : List Int) (a : Int) (k : Nat) (hk : c.length + 30 < k) : impl_ReachIn.f k n h c a = some (reachX n h c a) := by
  unfold impl_ReachIn.f reachX
  have e1 : (ringB n h c && (decide (0 ≤ a) && decide (a ≤ wrap64 (n - 1)))) = (ringB n h c && inB n a) := rfl
  rw [e1]
  cases hv : ringB n h c with
  | false => rw [if_neg (by simp), if_neg (by simp)]
  | true =>
    have V := ringV_of hv
    have h3 := V.n3
    cases ha : inB n a with
    | false => rw [if_neg (by simp), if_pos rfl, filI_false _ _ _ (fun x => by rw [pathX_out ha]; rfl)]
    | true =>
      rw [if_pos (by simp), if_pos rfl]
      exact reachGo_eq n h c a hv ((inB_iff V a).1 ha) k hk n.toNat 0 (by omega) (by omega)
theorem sreach_at (n h : Int) (c : List Int) (a : Int) (hv : ringB n h c = true) (d : Nat) : ∀ (k : Nat) (b : Int) (acc : List Int), 0 ≤ b → b + d = n → acc.length + d ≤ 1000 → 2 * d + c.length + 40 < k → spec_ReachIn.l0 k a acc b n h c = some (acc ++ filI (fun b => !(pathX n h c a b).isEmpty) d b) := by
  have V := ringV_of hv
  have hl := V.len
  have h10 := V.n10
  induction d with
  | zero =>
    intro k b acc h0 h1 h2 hk
    obtain ⟨k, rfl⟩ : ∃ m, k = m + 1 + 1 := ⟨k - 2, by omega⟩
    simp only [spec_ReachIn.l0]
    rw [sring_eq n h c (by omega) _ (by omega), Option.bind_some, hv, if_pos rfl, decide_eq_false (by omega)]
    simp only [spec_ReachIn.j1]
    rw [if_neg (by decide), filI, List.append_nil]
  | succ d ih =>
    intro k b acc h0 h1 h2 hk
    obtain ⟨k, rfl⟩ : ∃ m, k = m + 1 + 1 := ⟨k - 2, by omega⟩
    have ws : wrap64 (b + 1) = b + 1 := wrap_eq (by omega) (by omega)
    simp only [spec_ReachIn.l0]
    rw [sring_eq n h c (by omega) _ (by omega), Option.bind_some, hv, if_pos rfl, decide_eq_true (by omega)]
    simp only [spec_ReachIn.j1]
    rw [if_pos trivial, spathin_eq n h c a b (by omega) k (by omega), Option.bind_some, ws, filI]
    cases hp : pathX n h c a b with
    | nil =>
      rw [if_neg (by simp), ih k (b + 1) acc (by omega) (by omega) (by omega) (by omega), if_neg (by simp)]
    | cons x t =>
      rw [if_pos (by simp only [List.length_cons]; omega), if_pos (by omega), ih k (b + 1) _ (by omega) (by omega) (by simp; omega) (by omega), if_pos (by simp), List.append_assoc]
      rfl
theorem sreach_eq (n h : Int) (c : List Int) (a : Int) (hc : c.length ≤ 9223372036854775807) (k : Nat) (hk : c.length + 100 < k) : spec_ReachIn.f k n h c a = some (reachX n h c a) := by
  unfold spec_ReachIn.f reachX
  cases hv : ringB n h c with
  | false =>
    obtain ⟨k, rfl⟩ : ∃ m, k = m + 1 + 1 := ⟨k - 2, by omega⟩
    simp only [spec_ReachIn.l0]
    rw [sring_eq n h c hc _ (by omega), Option.bind_some, hv, if_neg (by decide), if_neg (by decide)]
    simp only [spec_ReachIn.j1]
    rw [if_neg (by decide)]
  | true =>
    have V := ringV_of hv
    have h3 := V.n3
    have h10 := V.n10
    rw [if_pos rfl]
    exact (sreach_at n h c a hv n.toNat k 0 [] (by omega) (by omega) (by simp; omega) (by omega)).trans (by rw [List.nil_append])
/-- The links over which frames go. -/
def openX (n h : Int) (c : List Int) : List Int := if ringB n h c = true then filI (opB h c) n.toNat 0 else []
theorem iopens_at (n h : Int) (c : List Int) (hn : n ≤ 10) (hc : c.length ≤ 10) (d : Nat) : ∀ (k : Nat) (b : Int) (acc : List Int), 0 ≤ b → b + d = n → acc.length + d ≤ 1000 → d + c.length + 4 < k → impl_OpenLinks.l0 k acc n b n h c = some (acc ++ filI (opB h c) d b) := by
  induction d with
  | zero =>
    intro k b acc h0 h1 h2 hk
    obtain ⟨k, rfl⟩ : ∃ m, k = m + 1 := ⟨k - 1, by omega⟩
    simp only [impl_OpenLinks.l0]
    rw [if_neg (by omega), filI, List.append_nil]
  | succ d ih =>
    intro k b acc h0 h1 h2 hk
    obtain ⟨k, rfl⟩ : ∃ m, k = m + 1 := ⟨k - 1, by omega⟩
    have ws : wrap64 (b + 1) = b + 1 := wrap_eq (by omega) (by omega)
    simp only [impl_OpenLinks.l0]
    rw [if_pos (by omega), iopen_eq n h c b (by omega) k (by omega), Option.bind_some, ws, filI]
    cases opB h c b with
    | false => rw [if_neg (by decide), if_neg (by decide)]; exact ih k (b + 1) acc (by omega) (by omega) (by omega) (by omega)
    | true => rw [if_pos rfl, if_pos rfl, if_pos (by omega), ih k (b + 1) _ (by omega) (by omega) (by simp; omega) (by omega), List.append_assoc]; rfl
theorem iopens_eq (n h : Int) (c : List Int) (k : Nat) (hk : c.length + 30 < k) : impl_OpenLinks.f k n h c = some (openX n h c) := by
  unfold impl_OpenLinks.f openX
  rw [iring_eq, Option.bind_some]
  cases hv : ringB n h c with
  | false => rw [if_neg (by decide), if_neg (by decide)]
  | true =>
    have V := ringV_of hv
    have h3 := V.n3
    have h10 := V.n10
    rw [if_pos rfl, if_pos rfl]
    exact (iopens_at n h c V.n10 V.len n.toNat k 0 [] (by omega) (by omega) (by simp; omega) (by omega)).trans (by rw [List.nil_append])
theorem sopens_at (n h : Int) (c : List Int) (hv : ringB n h c = true) (d : Nat) : ∀ (k : Nat) (b : Int) (acc : List Int), 0 ≤ b → b + d = n → acc.length + d ≤ 1000 → 2 * d + c.length + 4 < k → spec_OpenLinks.l0 k acc b n h c = some (acc ++ filI (opB h c) d b) := by
  have V := ringV_of hv
  have hl := V.len
  have h10 := V.n10
  induction d with
  | zero =>
    intro k b acc h0 h1 h2 hk
    obtain ⟨k, rfl⟩ : ∃ m, k = m + 1 + 1 := ⟨k - 2, by omega⟩
    simp only [spec_OpenLinks.l0]
    rw [if_neg (by omega)]
    simp only [spec_OpenLinks.j1]
    rw [if_neg (by decide), filI, List.append_nil]
  | succ d ih =>
    intro k b acc h0 h1 h2 hk
    obtain ⟨k, rfl⟩ : ∃ m, k = m + 1 + 1 := ⟨k - 2, by omega⟩
    have ws : wrap64 (b + 1) = b + 1 := wrap_eq (by omega) (by omega)
    simp only [spec_OpenLinks.l0]
    rw [if_pos (by omega), sring_eq n h c (by omega) _ (by omega), Option.bind_some, hv]
    simp only [spec_OpenLinks.j1]
    rw [if_pos trivial, sopen_eq n h c b (by omega) k (by omega), Option.bind_some, ws, filI]
    cases opB h c b with
    | false => rw [if_neg (by decide), if_neg (by decide)]; exact ih k (b + 1) acc (by omega) (by omega) (by omega) (by omega)
    | true => rw [if_pos rfl, if_pos rfl, if_pos (by omega), ih k (b + 1) _ (by omega) (by omega) (by simp; omega) (by omega), List.append_assoc]; rfl
theorem sopens_eq (n h : Int) (c : List Int) (hc : c.length ≤ 9223372036854775807) (k : Nat) (hk : c.length + 30 < k) : spec_OpenLinks.f k n h c = some (openX n h c) := by
  unfold spec_OpenLinks.f openX
  cases hv : ringB n h c with
  | false =>
    obtain ⟨k, rfl⟩ : ∃ m, k = m + 1 + 1 := ⟨k - 2, by omega⟩
    simp only [spec_OpenLinks.l0, spec_OpenLinks.j1]
    rw [sring_eq n h c hc _ (by omega), Option.bind_some, hv]
    simp
  | true =>
    have V := ringV_of hv
    have h3 := V.n3
    have h10 := V.n10
    rw [if_pos rfl]
    exact (sopens_at n h c hv n.toNat k 0 [] (by omega) (by omega) (by simp; omega) (by omega)).trans (by rw [List.nil_append])

-- LIB pints
/-- A copy of a list of numbers is that list. -/
theorem toIntS_at (l : List Int) (hl : l.length ≤ 1048576) (d : Nat) : ∀ (k i : Nat) (x : List Int), i + d = l.length → x.length = l.length → x.take i = l.take i → d < k → laws_toIntS.l0 k l x (i : Int) = some l := by
  induction d with
  | zero =>
    intro k i x h1 h2 h3 hk
    obtain ⟨k, rfl⟩ : ∃ m, k = m + 1 := ⟨k - 1, by omega⟩
    simp only [laws_toIntS.l0]
    rw [if_neg (by omega)]
    have e1 : x.take i = x := List.take_of_length_le (by omega)
    have e2 : l.take i = l := List.take_of_length_le (by omega)
    rw [← e1, h3, e2]
  | succ d ih =>
    intro k i x h1 h2 h3 hk
    obtain ⟨k, rfl⟩ : ∃ m, k = m + 1 := ⟨k - 1, by omega⟩
    simp only [laws_toIntS.l0]
    rw [if_pos (by omega), if_pos (by omega), if_pos (by omega), wrap_succ (show i < l.length by omega) (by omega), rd_get l i (by omega), Int.toNat_natCast]
    refine ih k (i + 1) (x.set i l[i]) (by omega) (by rw [List.length_set]; exact h2) ?_ (by omega)
    rw [List.take_add_one, List.take_add_one, List.take_set, List.getElem?_set_self (by omega), List.getElem?_eq_getElem (by omega), List.set_eq_of_length_le (by rw [List.length_take]; omega), h3]
theorem toIntS_eq (l : List Int) (hl : l.length ≤ 1048576) (k : Nat) (hk : l.length < k) : laws_toIntS.f k l = some l := by
  unfold laws_toIntS.f
  rw [if_pos (by omega), if_pos (by omega)]
  exact toIntS_at l hl l.length k 0 _ (by omega) (by simp) (by simp) hk
theorem eqIntS_at (l : List Int) (hl : l.length ≤ 9223372036854775807) (d : Nat) : ∀ (k i : Nat), i + d = l.length → d < k → laws_eqIntS.l0 k l l (i : Int) = some true := by
  induction d with
  | zero =>
    intro k i h1 hk
    obtain ⟨k, rfl⟩ : ∃ m, k = m + 1 := ⟨k - 1, by omega⟩
    simp only [laws_eqIntS.l0]
    rw [if_neg (by omega)]
  | succ d ih =>
    intro k i h1 hk
    obtain ⟨k, rfl⟩ : ∃ m, k = m + 1 := ⟨k - 1, by omega⟩
    simp only [laws_eqIntS.l0]
    rw [if_pos (by omega), if_pos (by omega), if_pos (by omega), if_pos trivial, wrap_succ (show i < l.length by omega) (by omega)]
    exact ih k (i + 1) (by omega) (by omega)
theorem eqIntS_eq (l : List Int) (hl : l.length ≤ 9223372036854775807) (k : Nat) (hk : l.length < k) : laws_eqIntS.f k l l = some true := by
  unfold laws_eqIntS.f
  rw [if_pos rfl]
  exact eqIntS_at l hl l.length k 0 (by omega) hk

-- LIB pmarkint
/-- Numbers in a row, from m on. -/
def mkI (m : Int) : Nat → List Int
  | 0 => []
  | n + 1 => m :: mkI (m + 1) n
theorem markInt_at (d : Nat) : ∀ (k i : Nat) (m : Int) (l : List Int), i + d = l.length → l.length ≤ 4611686018427387904 → d < k → 0 ≤ m → m + d ≤ 4611686018427387904 → laws_markIntS.l0 k l m i = some (m + d, l.take i ++ mkI m d) := by
  induction d with
  | zero =>
    intro k i m l h1 hl hk h2 h3
    obtain ⟨k, rfl⟩ : ∃ m, k = m + 1 := ⟨k - 1, by omega⟩
    simp only [laws_markIntS.l0]
    have e : l.take i = l := List.take_of_length_le (by omega)
    rw [if_neg (by omega), e, mkI, List.append_nil, show m + ((0 : Nat) : Int) = m by omega]
  | succ d ih =>
    intro k i m l h1 hl hk h2 h3
    obtain ⟨k, rfl⟩ : ∃ m, k = m + 1 := ⟨k - 1, by omega⟩
    simp only [laws_markIntS.l0]
    have e2 : (l.set i m).take (i + 1) = l.take i ++ [m] := by
      rw [List.take_add_one, List.take_set, List.getElem?_set_self (by omega), List.set_eq_of_length_le (by rw [List.length_take]; omega)]
      rfl
    rw [if_pos (by omega), if_pos (by omega), wrap_eq (by omega) (by omega), wrap_succ (show i < l.length by omega) (by omega), Int.toNat_natCast, ih k (i + 1) (m + 1) _ (by rw [List.length_set]; omega) (by rw [List.length_set]; omega) (by omega) (by omega) (by omega), e2, mkI, List.append_assoc, show m + 1 + (d : Int) = m + ((d + 1 : Nat) : Int) by omega]
    rfl
theorem markInt_eq (l : List Int) (m : Int) (hl : l.length ≤ 2305843009213693952) (h0 : 0 ≤ m) (h1 : m ≤ 2305843009213693952) (k : Nat) (hk : l.length < k) : laws_markIntS.f k l m = some (m + l.length, mkI m l.length) :=
  markInt_at l.length k 0 m l (by omega) (by omega) hk h0 (by omega)
theorem mkI_len (n : Nat) : ∀ m, (mkI m n).length = n := by
  induction n with
  | zero => exact fun _ => rfl
  | succ n ih => exact fun m => by rw [mkI, List.length_cons, ih]

-- LIB p17exact
theorem szInt_eq (l : List Int) (hl : l.length ≤ maxLen) : ∃ n : Int, laws_szIntS.f l 1048576 = some n ∧ (¬ n < 0 → l.length ≤ 1048576) := by
  unfold maxLen at hl
  unfold laws_szIntS.f
  rw [wrap_eq (by omega) (by omega)]
  split
  · exact ⟨_, rfl, fun h => absurd (show (-1 : Int) < 0 by decide) h⟩
  · exact ⟨_, rfl, fun h => by omega⟩
theorem szRing_eq (n h : Int) (l : List Int) (hl : l.length ≤ maxLen) : ∃ n' : Int, laws_szRing.f n h l 1048576 = some n' ∧ (¬ n' < 0 → l.length ≤ 1048576) := by
  obtain ⟨m, h1, h2⟩ := szInt_eq l hl
  unfold laws_szRing.f
  rw [h1, Option.bind_some]
  by_cases c : m < 0
  · rw [if_pos c]; exact ⟨_, rfl, fun h => absurd (show (-1 : Int) < 0 by decide) h⟩
  · rw [if_neg c]; exact ⟨_, rfl, fun _ => h2 c⟩
theorem toRing_eq (n h : Int) (l : List Int) (hl : l.length ≤ 1048576) (k : Nat) (hk : l.length < k) : laws_toRing.f k n h l = some (n, h, l) := by
  unfold laws_toRing.f
  rw [toIntS_eq l hl k hk, Option.bind_some]
theorem eqRing_eq (n h : Int) (l : List Int) (hl : l.length ≤ 9223372036854775807) (k : Nat) (hk : l.length < k) : laws_eqRing.f k n h l n h l = some true := by
  unfold laws_eqRing.f
  rw [if_pos rfl, if_pos rfl, eqIntS_eq l hl k hk, Option.bind_some, if_pos rfl]
theorem markRing_eq (n h : Int) (l : List Int) (hl : l.length ≤ 2305843009213693952) (k : Nat) (hk : l.length < k) : laws_markRing.f k n h l 1 = some (1 + (l.length : Int), mkI 1 l.length) := by
  unfold laws_markRing.f
  rw [markInt_eq l 1 hl (by omega) (by omega) k hk, Option.bind_some]
theorem dnL_len (st : Nat → Int) (d : Nat) : ∀ i, (dnL st d i).length = d := by
  induction d with
  | zero => exact fun _ => rfl
  | succ d ih => exact fun i => by rw [dnL, List.length_cons, ih]
theorem upL_len (st : Nat → Int) (d : Nat) : ∀ i, (upL st d i).length = d := by
  induction d with
  | zero => exact fun _ => rfl
  | succ d ih => exact fun i => by rw [upL, List.length_cons, ih]
theorem pathX_len (n h : Int) (c : List Int) (a b : Int) : (pathX n h c a b).length ≤ 20 := by
  unfold pathX
  by_cases hh : (ringB n h c && (inB n a && inB n b)) = true
  · rw [if_pos hh]
    simp only [Bool.and_eq_true] at hh
    obtain ⟨hv, ha, hb⟩ := hh
    have V := ringV_of hv
    have h10 := V.n10
    obtain ⟨z1, z2, _⟩ := zOf_ok V
    have p1 := posZ_lt ⟨z1, z2⟩ ((inB_iff V a).1 ha)
    have p2 := posZ_lt ⟨z1, z2⟩ ((inB_iff V b).1 hb)
    unfold pathP
    split
    · split
      · rw [List.length_cons, upL_len]; omega
      · rw [List.length_cons, dnL_len]; omega
    · simp
  · rw [if_neg hh]; simp
theorem reachX_len (n h : Int) (c : List Int) (a : Int) : (reachX n h c a).length ≤ 20 := by
  unfold reachX
  split
  · rename_i hv
    have V := ringV_of hv
    have h10 := V.n10
    have := filI_len (fun b => !(pathX n h c a b).isEmpty) n.toNat 0
    omega
  · simp

end Go.Proofs.Ytdnehickciaiiaa.PAll

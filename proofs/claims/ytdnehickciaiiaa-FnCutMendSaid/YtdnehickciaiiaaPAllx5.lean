/- Proved here: contracts of functions of the given program, or lemmas on them, for the laws of this seat. Written by xprint.py, a program of this session, on the ground of the kit's print; parts by hand: wip/x/ext. -/
import Derived.Test.YtdnehickciaiiaaPAllx0
import Derived.Test.YtdnehickciaiiaaPAllx2
import Derived.Test.YtdnehickciaiiaaPAllx3
import Derived.Test.YtdnehickciaiiaaPAllx6
import Derived.Test.YtdnehickciaiiaaPAllx9
namespace Go.Proofs.Ytdnehickciaiiaa.PAll
open Go.RowKit Go.Proofs.YtdnehickciaiiaaW.PrintWords Go.Proofs.YtdnehickciaiiaaW.PrintLast Go.Proofs.YtdnehickciaiiaaW.PrintMore
attribute [local go_sem] max2_int min2_int max_two min_two max_three min_three max_four min_four   -- for this text's walks alone
set_option linter.unusedVariables false
set_option linter.unusedSimpArgs false

/-! ### spec_MendLink: function 21 -/
mutual
def spec_MendLink.j0 : Nat → Int → Bool → Int → Int → List Int → Option (Int × Int × List Int × Bool)
 | 0, _, _, _, _, _ => none
 | k + 1, x1, x17, x223000, x223001, x223002 => if x17 = true then (some (0, 0, ([] : List Int), false)) else (spec_MendLink.l0 k x1 0 x223000 x223001 x223002 x223000 x223001 ([] : List Int))
def spec_MendLink.l0 : Nat → Int → Int → Int → Int → List Int → Int → Int → List Int → Option (Int × Int × List Int × Bool)
 | 0, _, _, _, _, _, _, _, _ => none
 | k + 1, x1, x7, x223000, x223001, x223002, x227000, x227001, x227002 => if x7 < (x223002.length : Int) then (if 0 ≤ x7 then (if (rd x223002 x7) = x1 then (spec_MendLink.l0 k x1 (wrap64 (x7 + 1)) x223000 x223001 x223002 x227000 x227001 x227002) else (if x227002.length < 17592186044416 then (spec_MendLink.l0 k x1 (wrap64 (x7 + 1)) x223000 x223001 x223002 x227000 x227001 (x227002 ++ [rd x223002 x7])) else (none))) else (none)) else (some (x227000, x227001, x227002, true))
end
def spec_MendLink.f (k : Nat) (a0_0 : Int) (a0_1 : Int) (l0_2 : List Int) (a1 : Int) : Option (Int × Int × List Int × Bool) := (spec_RingValid.f k a0_0 a0_1 l0_2).bind fun t224 => (if t224 = true then ((spec_l10Has.f k l0_2 a1).bind fun t225 => (spec_MendLink.j0 k a1 (!t225) a0_0 a0_1 l0_2)) else (spec_MendLink.j0 k a1 true a0_0 a0_1 l0_2))
theorem spec_MendLink.mono_l : ∀ k, (∀ y0 y1 y2 y3 y4, LeO (spec_MendLink.j0 k y0 y1 y2 y3 y4) (spec_MendLink.j0 (k + 1) y0 y1 y2 y3 y4)) ∧ (∀ y0 y1 y2 y3 y4 y5 y6 y7, LeO (spec_MendLink.l0 k y0 y1 y2 y3 y4 y5 y6 y7) (spec_MendLink.l0 (k + 1) y0 y1 y2 y3 y4 y5 y6 y7))
 | 0 => ⟨fun _ _ _ _ _ r h => by simp [spec_MendLink.j0] at h, fun _ _ _ _ _ _ _ _ r h => by simp [spec_MendLink.l0] at h⟩
 | k + 1 => by
  obtain ⟨ih0, ih1⟩ := spec_MendLink.mono_l k
  refine ⟨?_, ?_⟩
  ·intro y0 y1 y2 y3 y4
   unfold spec_MendLink.j0
   repeat' first
   | (with_reducible exact ih0 _ _ _ _ _)
   | (with_reducible exact ih1 _ _ _ _ _ _ _ _)
   | (with_reducible exact spec_RingValid.mono _ _ _ _)
   | (with_reducible exact spec_l10Has.mono _ _ _)
   | (with_reducible exact LeO.refl _)
   | (with_reducible exact LeO.none _)
   | (with_reducible refine LeO.ite ?_ ?_)
   | (with_reducible refine LeO.bind ?_ (fun _ => ?_))
   | exact ih0 _ _ _ _ _
   | exact ih1 _ _ _ _ _ _ _ _
   | exact spec_RingValid.mono _ _ _ _
   | exact spec_l10Has.mono _ _ _
   | exact LeO.none _
   | refine LeO.ite ?_ ?_
   | refine LeO.bind ?_ (fun _ => ?_)
  ·intro y0 y1 y2 y3 y4 y5 y6 y7
   unfold spec_MendLink.l0
   repeat' first
   | (with_reducible exact ih0 _ _ _ _ _)
   | (with_reducible exact ih1 _ _ _ _ _ _ _ _)
   | (with_reducible exact spec_RingValid.mono _ _ _ _)
   | (with_reducible exact spec_l10Has.mono _ _ _)
   | (with_reducible exact LeO.refl _)
   | (with_reducible exact LeO.none _)
   | (with_reducible refine LeO.ite ?_ ?_)
   | (with_reducible refine LeO.bind ?_ (fun _ => ?_))
   | exact ih0 _ _ _ _ _
   | exact ih1 _ _ _ _ _ _ _ _
   | exact spec_RingValid.mono _ _ _ _
   | exact spec_l10Has.mono _ _ _
   | exact LeO.none _
   | refine LeO.ite ?_ ?_
   | refine LeO.bind ?_ (fun _ => ?_)
theorem spec_MendLink.mono : ∀ a0 a1 a2 a3 k, LeO (spec_MendLink.f k a0 a1 a2 a3) (spec_MendLink.f (k + 1) a0 a1 a2 a3) := by
 intro a0 a1 a2 a3 k
 obtain ⟨ih0, ih1⟩ := spec_MendLink.mono_l k
 unfold spec_MendLink.f
 repeat' first
   | (with_reducible exact ih0 _ _ _ _ _)
   | (with_reducible exact ih1 _ _ _ _ _ _ _ _)
   | (with_reducible exact spec_RingValid.mono _ _ _ _)
   | (with_reducible exact spec_l10Has.mono _ _ _)
   | (with_reducible exact LeO.refl _)
   | (with_reducible exact LeO.none _)
   | (with_reducible refine LeO.ite ?_ ?_)
   | (with_reducible refine LeO.bind ?_ (fun _ => ?_))
   | exact ih0 _ _ _ _ _
   | exact ih1 _ _ _ _ _ _ _ _
   | exact spec_RingValid.mono _ _ _ _
   | exact spec_l10Has.mono _ _ _
   | exact LeO.none _
   | refine LeO.ite ?_ ?_
   | refine LeO.bind ?_ (fun _ => ?_)
def spec_MendLink.T8 : Bool × List (List Nat × List Nat) := (true, [([], []), ([0], [0]), ([], []), ([2], [2]), ([], []), ([3, 4], [3, 4]), ([5], [5]), ([6], [6]), ([1, 7], [1, 7]), ([0, 1, 2, 3, 4, 5, 6, 7, 8], []), ([9, 8, 8, 0, 1, 2, 3, 4, 5, 6, 7, 8], [8, 9])])
def spec_MendLink.B8 : List Nat := [0, 1, 0, 4, 0, 28, 60, 124, 255, 511, 1023]
theorem spec_MendLink.tab8 : rtab .any (opsOf Try.f21 8) = spec_MendLink.T8 := by kernel_rfl
theorem spec_MendLink.bits8 : waitsOk spec_MendLink.T8.2 spec_MendLink.B8 = true := by kernel_rfl
set_option maxHeartbeats 8000000 in
set_option maxRecDepth 100000 in
theorem spec_MendLink.calls (k : Nat) (a0_0 : Int) (a0_1 : Int) (A0_2 : Option Addr) (c0_2 : Nat) (l0_2 : List Int) (a1 : Int) (r1 : Int) (r2 : Int) (r3 : List Int) (r4 : Bool) (w : World) (hr0_2 : Kd.C (Kd.int .i64) w A0_2 l0_2.length l0_2) (hc0_2 : l0_2.length ≤ c0_2) (h : spec_MendLink.f k a0_0 a0_1 l0_2 a1 = some (r1, r2, r3, r4)) :
  Calls Try.prog 21 #[.agg #[.int .i64 a0_0, .int .i64 a0_1, .slice A0_2 l0_2.length c0_2], .int .i64 a1] w fun e w' => ∃ v2_ : Value, e = .returned (.tuple #[.agg #[.int .i64 r1, .int .i64 r2, v2_], .bool r4]) ∧ Kd.R (Kd.int .i64) 3 w' w.heap.size (fun _ => True) v2_ r3 ∧ Below w.heap.size w w' := by
 have hu25 := Try.underlying25
 have HR0_2 := Aside0.mk hr0_2
 have HC0_2 := Aside0.mk hc0_2
 clear hr0_2 hc0_2
 have HB := Aside0.mk (Below.refl w.heap.size w)
 have H : ((spec_RingValid.f k a0_0 a0_1 l0_2).bind fun t224 => (if t224 = true then ((spec_l10Has.f k l0_2 a1).bind fun t225 => (spec_MendLink.j0 k a1 (!t225) a0_0 a0_1 l0_2)) else (spec_MendLink.j0 k a1 true a0_0 a0_1 l0_2))) = some (r1, r2, r3, r4) := h
 clear h
 have HC3 := Aside0.mk H
 clear H
 go_enter Try.func21, Try.ntmps21
 go_upto_region 1 with (first | ((with_reducible refine gate_dst (N := 2) rfl ?_); refine box_event ?hg (N := 2) ?hd (cs := #[.int .i64 a0_0, .int .i64 a0_1, .slice A0_2 l0_2.length c0_2]) (t := 25) ?hr ?_; (case hd => rfl); (case hg => rfl); (case hr => first | (go_simp; done) | (go_simp; rfl)); intro gb222 hg w4 hbox hb; have n0_ := Aside0.mk (below_step (by repeat (first | (with_reducible first | exact HB.out | apply below_alloc | apply pw_below_drewN | apply below_drew1) | exact HB.out)) hb); have n1_ := Aside0.mk (hbox); have n2_ := Aside0.mk ((by rw [hg]; exact (below_size (by repeat (first | (with_reducible first | exact HB.out | apply below_alloc | apply pw_below_drewN | apply below_drew1) | exact HB.out))) : w.heap.size ≤ gb222)); have n3_ := Aside0.mk ((by rw [hg]; exact (below_size (by repeat (first | (with_reducible first | exact HB.out | apply below_alloc | apply pw_below_drewN | apply below_drew1) | exact HB.out))) : w.heap.size ≤ gb222)); clear HB; have HB := n0_; have BK222 := n1_; have GW222 := n2_; have GE222 := n3_; clear n0_ n1_ n2_ n3_; clear hb hbox hg) | ((with_reducible refine gate_dst (N := 4) rfl ?_); refine box_event ?hg (N := 4) ?hd (cs := #[.int .i64 0, .int .i64 0, .slice none 0 0]) (t := 25) ?hr ?_; (case hd => rfl); (case hg => rfl); (case hr => first | (go_simp; done) | (go_simp; rfl)); intro gb223 hg w5 hbox hb; have n0_ := Aside0.mk (blk_below (g := gb222) (o := .cells #[.int .i64 a0_0, .int .i64 a0_1, .slice A0_2 l0_2.length c0_2] 25 (0, 0)) (by (with_reducible repeat (first | refine blk_drewN ?_ _ | refine blk_drew ?_ | refine blk_alloc ?_ _)); exact BK222.out) hb); have n1_ := Aside0.mk (below_step (by repeat (first | (with_reducible first | exact HB.out | apply below_alloc | apply pw_below_drewN | apply below_drew1 | refine below_set ?_ GE222.out) | exact HB.out)) hb); have n2_ := Aside0.mk (hbox); have n3_ := Aside0.mk ((by rw [hg]; exact (below_size (by repeat (first | (with_reducible first | exact HB.out | apply below_alloc | apply pw_below_drewN | apply below_drew1 | refine below_set ?_ GE222.out) | exact HB.out))) : w.heap.size ≤ gb223)); have n4_ := Aside0.mk ((by rw [hg]; exact (below_size (by repeat (first | (with_reducible first | exact HB.out | apply below_alloc | apply pw_below_drewN | apply below_drew1 | refine below_set ?_ GE222.out) | exact HB.out))) : w.heap.size ≤ gb223)); have n5_ := Aside0.mk ((by rw [hg]; exact Nat.ne_of_lt (blk_lt (g := gb222) (o := .cells #[.int .i64 a0_0, .int .i64 a0_1, .slice A0_2 l0_2.length c0_2] 25 (0, 0)) (by (with_reducible repeat (first | refine blk_drewN ?_ _ | refine blk_drew ?_ | refine blk_alloc ?_ _)); exact BK222.out)) : gb222 ≠ gb223)); have n6_ := Aside0.mk ((by rw [hg]; exact Nat.ne_of_gt (blk_lt (g := gb222) (o := .cells #[.int .i64 a0_0, .int .i64 a0_1, .slice A0_2 l0_2.length c0_2] 25 (0, 0)) (by (with_reducible repeat (first | refine blk_drewN ?_ _ | refine blk_drew ?_ | refine blk_alloc ?_ _)); exact BK222.out)) : gb223 ≠ gb222)); clear BK222; clear HB; have BK222 := n0_; have HB := n1_; have BK223 := n2_; have GW223 := n3_; have GE223 := n4_; have NB222_223 := n5_; have NB223_222 := n6_; clear n0_ n1_ n2_ n3_ n4_ n5_ n6_; clear hb hbox hg))
 (try simp only [Act.put, List.setIfInBounds_toArray, List.set_cons_zero, List.set_cons_succ])
 go_cut [17] (fun v17 wc => ∃ (kq : Nat) (x17_2 : Bool), v17 = .bool x17_2 ∧ Aside0 (spec_MendLink.j0 kq a1 x17_2 a0_0 a0_1 l0_2 = some (r1, r2, r3, r4)) ∧ Aside0 (kq ≤ k) ∧ Aside0 (wc.heap[gb222]? = some (.cells #[.int .i64 a0_0, .int .i64 a0_1, (.slice A0_2 l0_2.length c0_2)] 25 (0, 0))) ∧ Aside0 (wc.heap[gb223]? = some (.cells #[.int .i64 0, .int .i64 0, (.slice none 0 0)] 25 (0, 0))) ∧ Aside0 (Below w.heap.size w wc))
 case first =>
  have H := HC3.out
  clear HC3
  replace H := Option.bind_eq_some_iff.mp H
  obtain ⟨t224, A60, H⟩ := H
  replace H : (if t224 = true then ((spec_l10Has.f k l0_2 a1).bind fun t225 => (spec_MendLink.j0 k a1 (!t225) a0_0 a0_1 l0_2)) else (spec_MendLink.j0 k a1 true a0_0 a0_1 l0_2)) = some (r1, r2, r3, r4) := H
  have A6 := Aside0.mk A60
  clear A60
  by_cases c7 : t224 = true
  ·subst c7
   have H1 : ((spec_l10Has.f k l0_2 a1).bind fun t225 => (spec_MendLink.j0 k a1 (!t225) a0_0 a0_1 l0_2)) = some (r1, r2, r3, r4) := by rw [if_pos rfl] at H; exact H
   clear H
   have H := H1
   clear H1
   replace H := Option.bind_eq_some_iff.mp H
   obtain ⟨t225, A80, H⟩ := H
   replace H : (spec_MendLink.j0 k a1 (!t225) a0_0 a0_1 l0_2) = some (r1, r2, r3, r4) := H
   have A8 := Aside0.mk A80
   clear A80
   have H' := Aside0.mk H
   clear H
   have hnb9 := NB222_223.out
   have hnc9 := NB223_222.out
   have hcz10_0 : w5.cell? ⟨gb222, 0, none⟩ = some (.int .i64 a0_0) := (blk_cell BK222.out 0).trans rfl
   have hcz10_1 : w5.cell? ⟨gb222, 1, none⟩ = some (.int .i64 a0_1) := (blk_cell BK222.out 1).trans rfl
   have hcz10_2 : w5.cell? ⟨gb222, 2, none⟩ = some (.slice A0_2 l0_2.length c0_2) := (blk_cell BK222.out 2).trans rfl
   have hfz10_0 := blk_frozen BK222.out 0
   have hfz10_1 := blk_frozen BK222.out 1
   have hfz10_2 := blk_frozen BK222.out 2
   go_wp2_with (first | ((with_reducible refine gate_callee (f := 18) rfl ?_); refine goesL_ (some 9) rfl rfl Try.func18 (by kernel_rfl) rfl #[.agg #[.int .i64 a0_0, .int .i64 a0_1, .slice A0_2 l0_2.length c0_2]] rfl (by (try simp only [List.map_toArray, List.map_cons, List.map_nil]); first | done | rfl | (simp only [List.length_drop, List.length_take]; rfl)) ?_; (with_reducible refine (spec_RingValid.calls k a0_0 a0_1 _ _ l0_2 true _ ?side1 ?side2 A6.out).mono ?_); (case side1 => repeat (first | exact (Kd.C_below HR0_2.out HB.out) | (with_reducible refine Kd.C_alloc ?_ _) | (with_reducible refine Kd.C_drewN ?_ _) | (with_reducible refine Kd.C_drew ?_))); (case side2 => exact HC0_2.out); rintro e w11 ⟨rfl, hb⟩; refine ⟨_, rfl, ?_⟩; have n0_ := Aside0.mk (blk_below (g := gb222) (o := .cells #[.int .i64 a0_0, .int .i64 a0_1, .slice A0_2 l0_2.length c0_2] 25 (0, 0)) (by (with_reducible repeat (first | refine blk_drewN ?_ _ | refine blk_drew ?_ | refine blk_alloc ?_ _)); exact BK222.out) hb); have n1_ := Aside0.mk (blk_below (g := gb223) (o := .cells #[.int .i64 0, .int .i64 0, .slice none 0 0] 25 (0, 0)) (by (with_reducible repeat (first | refine blk_drewN ?_ _ | refine blk_drew ?_ | refine blk_alloc ?_ _)); exact BK223.out) hb); have n2_ := Aside0.mk (below_step (by repeat (first | (with_reducible first | exact HB.out | apply below_alloc | apply pw_below_drewN | apply below_drew1 | refine below_set ?_ GE222.out | refine below_set ?_ GE223.out) | exact HB.out)) hb); clear BK222; clear BK223; clear HB; have BK222 := n0_; have BK223 := n1_; have HB := n2_; clear n0_ n1_ n2_; (try clear hb); (try clear hb2); (try clear hk); (try clear hi); have hcz12_0 : w11.cell? ⟨gb222, 0, none⟩ = some (.int .i64 a0_0) := (blk_cell BK222.out 0).trans rfl; have hcz12_1 : w11.cell? ⟨gb222, 1, none⟩ = some (.int .i64 a0_1) := (blk_cell BK222.out 1).trans rfl; have hcz12_2 : w11.cell? ⟨gb222, 2, none⟩ = some (.slice A0_2 l0_2.length c0_2) := (blk_cell BK222.out 2).trans rfl; have hfz12_0 := blk_frozen BK222.out 0; have hfz12_1 := blk_frozen BK222.out 1; have hfz12_2 := blk_frozen BK222.out 2) | (go_at_call 52; (with_reducible refine (spec_l10Has.calls k _ _ l0_2 a1 t225 _ ?side1 ?side2 A8.out).mono ?_); (case side1 => repeat (first | exact (Kd.C_below HR0_2.out HB.out) | (with_reducible refine Kd.C_alloc ?_ _) | (with_reducible refine Kd.C_drewN ?_ _) | (with_reducible refine Kd.C_drew ?_))); (case side2 => exact HC0_2.out); rintro e w' ⟨rfl, ⟨nd, rfl⟩⟩))
   go_meet
   case rel => exact ⟨_, (!t225), (by first | rfl | (simp; done) | (simp [*]; done)), H', ⟨by first | omega | exact Nat.le_refl _⟩, ⟨by (with_reducible repeat (first | refine blk_drewN ?_ _ | refine blk_drew ?_ | refine blk_alloc ?_ _)); exact BK222.out⟩, ⟨by (with_reducible repeat (first | refine blk_drewN ?_ _ | refine blk_drew ?_ | refine blk_alloc ?_ _)); exact BK223.out⟩, ⟨by repeat (first | (with_reducible first | exact HB.out | apply below_alloc | apply pw_below_drewN | apply below_drew1 | refine below_set ?_ GE222.out | refine below_set ?_ GE223.out) | exact HB.out)⟩⟩
  ·replace c7 := Bool.eq_false_iff.mpr c7
   subst c7
   have H1 : (spec_MendLink.j0 k a1 true a0_0 a0_1 l0_2) = some (r1, r2, r3, r4) := by rw [if_neg (show ¬ (false = true) by decide)] at H; exact H
   clear H
   have H := H1
   clear H1
   have H' := Aside0.mk H
   clear H
   have hnb13 := NB222_223.out
   have hnc13 := NB223_222.out
   have hcz14_0 : w5.cell? ⟨gb222, 0, none⟩ = some (.int .i64 a0_0) := (blk_cell BK222.out 0).trans rfl
   have hcz14_1 : w5.cell? ⟨gb222, 1, none⟩ = some (.int .i64 a0_1) := (blk_cell BK222.out 1).trans rfl
   have hcz14_2 : w5.cell? ⟨gb222, 2, none⟩ = some (.slice A0_2 l0_2.length c0_2) := (blk_cell BK222.out 2).trans rfl
   have hfz14_0 := blk_frozen BK222.out 0
   have hfz14_1 := blk_frozen BK222.out 1
   have hfz14_2 := blk_frozen BK222.out 2
   go_wp2_with (first | ((with_reducible refine gate_callee (f := 18) rfl ?_); refine goesL_ (some 9) rfl rfl Try.func18 (by kernel_rfl) rfl #[.agg #[.int .i64 a0_0, .int .i64 a0_1, .slice A0_2 l0_2.length c0_2]] rfl (by (try simp only [List.map_toArray, List.map_cons, List.map_nil]); first | done | rfl | (simp only [List.length_drop, List.length_take]; rfl)) ?_; (with_reducible refine (spec_RingValid.calls k a0_0 a0_1 _ _ l0_2 false _ ?side1 ?side2 A6.out).mono ?_); (case side1 => repeat (first | exact (Kd.C_below HR0_2.out HB.out) | (with_reducible refine Kd.C_alloc ?_ _) | (with_reducible refine Kd.C_drewN ?_ _) | (with_reducible refine Kd.C_drew ?_))); (case side2 => exact HC0_2.out); rintro e w15 ⟨rfl, hb⟩; refine ⟨_, rfl, ?_⟩; have n0_ := Aside0.mk (blk_below (g := gb222) (o := .cells #[.int .i64 a0_0, .int .i64 a0_1, .slice A0_2 l0_2.length c0_2] 25 (0, 0)) (by (with_reducible repeat (first | refine blk_drewN ?_ _ | refine blk_drew ?_ | refine blk_alloc ?_ _)); exact BK222.out) hb); have n1_ := Aside0.mk (blk_below (g := gb223) (o := .cells #[.int .i64 0, .int .i64 0, .slice none 0 0] 25 (0, 0)) (by (with_reducible repeat (first | refine blk_drewN ?_ _ | refine blk_drew ?_ | refine blk_alloc ?_ _)); exact BK223.out) hb); have n2_ := Aside0.mk (below_step (by repeat (first | (with_reducible first | exact HB.out | apply below_alloc | apply pw_below_drewN | apply below_drew1 | refine below_set ?_ GE222.out | refine below_set ?_ GE223.out) | exact HB.out)) hb); clear BK222; clear BK223; clear HB; have BK222 := n0_; have BK223 := n1_; have HB := n2_; clear n0_ n1_ n2_; (try clear hb); (try clear hb2); (try clear hk); (try clear hi)))
   go_meet
   case rel => exact ⟨_, (true), (by first | rfl | (simp; done) | (simp [*]; done)), H', ⟨by first | omega | exact Nat.le_refl _⟩, ⟨by (with_reducible repeat (first | refine blk_drewN ?_ _ | refine blk_drew ?_ | refine blk_alloc ?_ _)); exact BK222.out⟩, ⟨by (with_reducible repeat (first | refine blk_drewN ?_ _ | refine blk_drew ?_ | refine blk_alloc ?_ _)); exact BK223.out⟩, ⟨by repeat (first | (with_reducible first | exact HB.out | apply below_alloc | apply pw_below_drewN | apply below_drew1 | refine below_set ?_ GE222.out | refine below_set ?_ GE223.out) | exact HB.out)⟩⟩
 case rest =>
  clear HC3
  try clear c1
  try clear c2
  try clear p2
  try clear c7
  try clear c9
  try clear c13
  try clear hcz10_0
  try clear hcz10_1
  try clear hcz10_2
  try clear hcz12_0
  try clear hcz12_1
  try clear hcz12_2
  try clear hcz14_0
  try clear hcz14_1
  try clear hcz14_2
  try clear hfz10_0
  try clear hfz10_1
  try clear hfz10_2
  try clear hfz12_0
  try clear hfz12_1
  try clear hfz12_2
  try clear hfz14_0
  try clear hfz14_1
  try clear hfz14_2
  obtain ⟨kq, x17_2, rfl, HA, HJ2, BK222, BK223, HB⟩ := hcut
  cases kq with
  | zero => exact absurd HA.out (by simp [spec_MendLink.j0])
  | succ kj2 =>
   have H := HA.out
   clear HA
   simp only [spec_MendLink.j0] at H
   by_cases c16 : x17_2 = true
   ·subst c16
    have H1 : (some (0, 0, ([] : List Int), false)) = some (r1, r2, r3, r4) := by rw [if_pos rfl] at H; exact H
    clear H
    have H := H1
    clear H1
    simp only [Option.some.injEq, Prod.mk.injEq] at H
    obtain ⟨rfl, rfl, rfl, rfl⟩ := H
    have hnb17 := NB223_222.out
    have hnc17 := NB222_223.out
    have hcz18_0 : wc.cell? ⟨gb223, 0, none⟩ = some (.int .i64 0) := (blk_cell BK223.out 0).trans rfl
    have hcz18_1 : wc.cell? ⟨gb223, 1, none⟩ = some (.int .i64 0) := (blk_cell BK223.out 1).trans rfl
    have hcz18_2 : wc.cell? ⟨gb223, 2, none⟩ = some (.slice none 0 0) := (blk_cell BK223.out 2).trans rfl
    have hfz18_0 := blk_frozen BK223.out 0
    have hfz18_1 := blk_frozen BK223.out 1
    have hfz18_2 := blk_frozen BK223.out 2
    go_wp2
    refine bodyPost_ret (results_ct rfl _ _ gb223 25 #[.int .i64 0, .int .i64 0, .slice none 0 0] (0, 0) _ rfl (by (with_reducible repeat (first | refine blk_drewN ?_ _ | refine blk_drew ?_ | refine blk_alloc ?_ _)); refine blk_put (cs := #[.int .i64 0, .int .i64 0, .slice none 0 0]) ?_ 2 _ rfl; (with_reducible repeat (first | refine blk_drewN ?_ _ | refine blk_drew ?_ | refine blk_alloc ?_ _)); refine blk_put (cs := #[.int .i64 0, .int .i64 0, .slice none 0 0]) ?_ 1 _ rfl; (with_reducible repeat (first | refine blk_drewN ?_ _ | refine blk_drew ?_ | refine blk_alloc ?_ _)); refine blk_put (cs := #[.int .i64 0, .int .i64 0, .slice none 0 0]) ?_ 0 _ rfl; (with_reducible repeat (first | refine blk_drewN ?_ _ | refine blk_drew ?_ | refine blk_alloc ?_ _)); exact BK223.out) Try.underlying25 rfl (by kernel_rfl)) rfl ?_
    exact ⟨_, by first | rfl | (simp [errW_none, errW_some] <;> rfl) | (simp [*, errW_none, errW_some] <;> rfl), by first | exact Kd.R_nil _ _ _ _ _ | exact Kd.N_nil _ _ _ _ _ | exact Kd.V_nil _ _ _ _ _ | exact Kd.Q_nil _ _ _ _ _ | exact Kd.S_nil _ _ _ _ _, by repeat (first | (with_reducible first | exact HB.out | apply below_alloc | apply pw_below_drewN | apply below_drew1 | refine below_set ?_ GE222.out | refine below_set ?_ GE223.out) | exact HB.out)⟩
   ·replace c16 := Bool.eq_false_iff.mpr c16
    subst c16
    have H1 : (spec_MendLink.l0 kj2 a1 0 a0_0 a0_1 l0_2 a0_0 a0_1 ([] : List Int)) = some (r1, r2, r3, r4) := by rw [if_neg (show ¬ (false = true) by decide)] at H; exact H
    clear H
    have H := H1
    clear H1
    have H' := Aside0.mk H
    clear H
    have hnb19 := NB222_223.out
    have hnc19 := NB223_222.out
    have hcz20_0 : wc.cell? ⟨gb222, 0, none⟩ = some (.int .i64 a0_0) := (blk_cell BK222.out 0).trans rfl
    have hcz20_1 : wc.cell? ⟨gb222, 1, none⟩ = some (.int .i64 a0_1) := (blk_cell BK222.out 1).trans rfl
    have hcz20_2 : wc.cell? ⟨gb222, 2, none⟩ = some (.slice A0_2 l0_2.length c0_2) := (blk_cell BK222.out 2).trans rfl
    have hfz20_0 := blk_frozen BK222.out 0
    have hfz20_1 := blk_frozen BK222.out 1
    have hfz20_2 := blk_frozen BK222.out 2
    go_wp2_with (first | ((with_reducible refine gate_dst (N := 6) rfl ?_); refine box_event ?hg (N := 6) ?hd (cs := #[.int .i64 0, .int .i64 0, .slice none 0 0]) (t := 25) ?hr ?_; (case hd => rfl); (case hg => rfl); (case hr => first | (go_simp; done) | (go_simp; rfl)); intro gb226 hg w21 hbox hb; have n0_ := Aside0.mk (blk_below (g := gb222) (o := .cells #[.int .i64 a0_0, .int .i64 a0_1, .slice A0_2 l0_2.length c0_2] 25 (0, 0)) (by (with_reducible repeat (first | refine blk_drewN ?_ _ | refine blk_drew ?_ | refine blk_alloc ?_ _)); exact BK222.out) hb); have n1_ := Aside0.mk (blk_below (g := gb223) (o := .cells #[.int .i64 0, .int .i64 0, .slice none 0 0] 25 (0, 0)) (by (with_reducible repeat (first | refine blk_drewN ?_ _ | refine blk_drew ?_ | refine blk_alloc ?_ _)); exact BK223.out) hb); have n2_ := Aside0.mk (below_step (by repeat (first | (with_reducible first | exact HB.out | apply below_alloc | apply pw_below_drewN | apply below_drew1 | refine below_set ?_ GE222.out | refine below_set ?_ GE223.out) | exact HB.out)) hb); have n3_ := Aside0.mk (hbox); have n4_ := Aside0.mk ((by rw [hg]; exact (below_size (by repeat (first | (with_reducible first | exact HB.out | apply below_alloc | apply pw_below_drewN | apply below_drew1 | refine below_set ?_ GE222.out | refine below_set ?_ GE223.out) | exact HB.out))) : w.heap.size ≤ gb226)); have n5_ := Aside0.mk ((by rw [hg]; exact (below_size (by repeat (first | (with_reducible first | exact HB.out | apply below_alloc | apply pw_below_drewN | apply below_drew1 | refine below_set ?_ GE222.out | refine below_set ?_ GE223.out) | exact HB.out))) : w.heap.size ≤ gb226)); have n6_ := Aside0.mk ((by rw [hg]; exact Nat.ne_of_lt (blk_lt (g := gb222) (o := .cells #[.int .i64 a0_0, .int .i64 a0_1, .slice A0_2 l0_2.length c0_2] 25 (0, 0)) (by (with_reducible repeat (first | refine blk_drewN ?_ _ | refine blk_drew ?_ | refine blk_alloc ?_ _)); exact BK222.out)) : gb222 ≠ gb226)); have n7_ := Aside0.mk ((by rw [hg]; exact Nat.ne_of_gt (blk_lt (g := gb222) (o := .cells #[.int .i64 a0_0, .int .i64 a0_1, .slice A0_2 l0_2.length c0_2] 25 (0, 0)) (by (with_reducible repeat (first | refine blk_drewN ?_ _ | refine blk_drew ?_ | refine blk_alloc ?_ _)); exact BK222.out)) : gb226 ≠ gb222)); have n8_ := Aside0.mk ((by rw [hg]; exact Nat.ne_of_lt (blk_lt (g := gb223) (o := .cells #[.int .i64 0, .int .i64 0, .slice none 0 0] 25 (0, 0)) (by (with_reducible repeat (first | refine blk_drewN ?_ _ | refine blk_drew ?_ | refine blk_alloc ?_ _)); exact BK223.out)) : gb223 ≠ gb226)); have n9_ := Aside0.mk ((by rw [hg]; exact Nat.ne_of_gt (blk_lt (g := gb223) (o := .cells #[.int .i64 0, .int .i64 0, .slice none 0 0] 25 (0, 0)) (by (with_reducible repeat (first | refine blk_drewN ?_ _ | refine blk_drew ?_ | refine blk_alloc ?_ _)); exact BK223.out)) : gb226 ≠ gb223)); clear BK222; clear BK223; clear HB; have BK222 := n0_; have BK223 := n1_; have HB := n2_; have BK226 := n3_; have GW226 := n4_; have GE226 := n5_; have NB222_226 := n6_; have NB226_222 := n7_; have NB223_226 := n8_; have NB226_223 := n9_; clear n0_ n1_ n2_ n3_ n4_ n5_ n6_ n7_ n8_ n9_; clear hb hbox hg; have hnb22 := NB226_222.out; have hnc22 := NB222_226.out; have hnb23 := NB226_223.out; have hnc23 := NB223_226.out; have hcz24_0 : w21.cell? ⟨gb226, 0, none⟩ = some (.int .i64 0) := (blk_cell BK226.out 0).trans rfl; have hcz24_1 : w21.cell? ⟨gb226, 1, none⟩ = some (.int .i64 0) := (blk_cell BK226.out 1).trans rfl; have hcz24_2 : w21.cell? ⟨gb226, 2, none⟩ = some (.slice none 0 0) := (blk_cell BK226.out 2).trans rfl; have hfz24_0 := blk_frozen BK226.out 0; have hfz24_1 := blk_frozen BK226.out 1; have hfz24_2 := blk_frozen BK226.out 2))
    go_loopg [7] kj2 (fun kq v7 w' => ∃ (x7_2 : Int) (x227002_2 : List Int) (u227002 : Value), v7 = .int .i64 x7_2 ∧ Aside0 (spec_MendLink.l0 kq a1 x7_2 a0_0 a0_1 l0_2 a0_0 a0_1 x227002_2 = some (r1, r2, r3, r4)) ∧ Aside0 (kq ≤ kj2) ∧ Aside0 (Kd.R (Kd.int .i64) 3 w' w.heap.size (fun _ => True) u227002 x227002_2) ∧ Aside0 (w'.heap[gb222]? = some (.cells #[.int .i64 a0_0, .int .i64 a0_1, (.slice A0_2 l0_2.length c0_2)] 25 (0, 0))) ∧ Aside0 (w'.heap[gb223]? = some (.cells #[.int .i64 0, .int .i64 0, (.slice none 0 0)] 25 (0, 0))) ∧ Aside0 (w'.heap[gb226]? = some (.cells #[.int .i64 a0_0, .int .i64 a0_1, u227002] 25 (0, 0))) ∧ Aside0 (Below w.heap.size w w'))
    case atStart => exact ⟨(0), (([] : List Int)), (.slice none 0 0), (by first | rfl | (simp; done) | (simp [*]; done)), H', ⟨Nat.le_refl _⟩, ⟨by first | exact Kd.R_nil _ _ _ _ _ | exact Kd.N_nil _ _ _ _ _ | exact Kd.V_nil _ _ _ _ _ | exact Kd.Q_nil _ _ _ _ _ | exact Kd.S_nil _ _ _ _ _⟩, ⟨by (with_reducible repeat (first | refine blk_drewN ?_ _ | refine blk_drew ?_ | refine blk_alloc ?_ _)); refine blk_far ?_ NB222_226.out _; (with_reducible repeat (first | refine blk_drewN ?_ _ | refine blk_drew ?_ | refine blk_alloc ?_ _)); refine blk_far ?_ NB222_226.out _; (with_reducible repeat (first | refine blk_drewN ?_ _ | refine blk_drew ?_ | refine blk_alloc ?_ _)); refine blk_far ?_ NB222_226.out _; (with_reducible repeat (first | refine blk_drewN ?_ _ | refine blk_drew ?_ | refine blk_alloc ?_ _)); exact BK222.out⟩, ⟨by (with_reducible repeat (first | refine blk_drewN ?_ _ | refine blk_drew ?_ | refine blk_alloc ?_ _)); refine blk_far ?_ NB223_226.out _; (with_reducible repeat (first | refine blk_drewN ?_ _ | refine blk_drew ?_ | refine blk_alloc ?_ _)); refine blk_far ?_ NB223_226.out _; (with_reducible repeat (first | refine blk_drewN ?_ _ | refine blk_drew ?_ | refine blk_alloc ?_ _)); refine blk_far ?_ NB223_226.out _; (with_reducible repeat (first | refine blk_drewN ?_ _ | refine blk_drew ?_ | refine blk_alloc ?_ _)); exact BK223.out⟩, ⟨by (with_reducible repeat (first | refine blk_drewN ?_ _ | refine blk_drew ?_ | refine blk_alloc ?_ _)); refine blk_put (cs := #[.int .i64 a0_0, .int .i64 a0_1, .slice none 0 0]) ?_ 2 _ rfl; (with_reducible repeat (first | refine blk_drewN ?_ _ | refine blk_drew ?_ | refine blk_alloc ?_ _)); refine blk_put (cs := #[.int .i64 a0_0, .int .i64 0, .slice none 0 0]) ?_ 1 _ rfl; (with_reducible repeat (first | refine blk_drewN ?_ _ | refine blk_drew ?_ | refine blk_alloc ?_ _)); refine blk_put (cs := #[.int .i64 0, .int .i64 0, .slice none 0 0]) ?_ 0 _ rfl; (with_reducible repeat (first | refine blk_drewN ?_ _ | refine blk_drew ?_ | refine blk_alloc ?_ _)); exact BK226.out⟩, ⟨by repeat (first | (with_reducible first | exact HB.out | apply below_alloc | apply pw_below_drewN | apply below_drew1 | refine below_set ?_ GE222.out | refine below_set ?_ GE223.out | refine below_set ?_ GE226.out) | exact HB.out)⟩⟩
    case round =>
     clear H'
     try clear c1
     try clear c2
     try clear p2
     try clear c7
     try clear c9
     try clear c13
     try clear c16
     try clear c17
     try clear c18
     try clear c19
     try clear c21
     try clear c22
     try clear c23
     try clear hcz10_0
     try clear hcz10_1
     try clear hcz10_2
     try clear hcz12_0
     try clear hcz12_1
     try clear hcz12_2
     try clear hcz14_0
     try clear hcz14_1
     try clear hcz14_2
     try clear hcz18_0
     try clear hcz18_1
     try clear hcz18_2
     try clear hcz20_0
     try clear hcz20_1
     try clear hcz20_2
     try clear hcz24_0
     try clear hcz24_1
     try clear hcz24_2
     try clear hfz10_0
     try clear hfz10_1
     try clear hfz10_2
     try clear hfz12_0
     try clear hfz12_1
     try clear hfz12_2
     try clear hfz14_0
     try clear hfz14_1
     try clear hfz14_2
     try clear hfz18_0
     try clear hfz18_1
     try clear hfz18_2
     try clear hfz20_0
     try clear hfz20_1
     try clear hfz20_2
     try clear hfz24_0
     try clear hfz24_1
     try clear hfz24_2
     try clear p2
     obtain ⟨x7_2, x227002_2, u227002, rfl, HA, HK2, HO_227002, BK222, BK223, BK226, HB⟩ := hrel
     cases gk with
     | zero => exact absurd HA.out (by simp [spec_MendLink.l0])
     | succ k2 =>
      have H := HA.out
      clear HA
      simp only [spec_MendLink.l0] at H
      by_cases c25 : x7_2 < (l0_2.length : Int)
      ·rw [if_pos c25] at H
       have c25b0 : decide (x7_2 < (l0_2.length : Int)) = true := decide_eq_true c25
       clear c25
       by_cases c26 : 0 ≤ x7_2
       ·rw [if_pos c26] at H
        have c26b0 : decide (0 ≤ x7_2) = true := decide_eq_true c26
        clear c26
        by_cases c27 : (rd l0_2 x7_2) = a1
        ·rw [if_pos c27] at H
         have c27b0 : ((rd l0_2 x7_2) == a1) = true := beq_iff_eq.mpr c27
         have c27b1 : ((rd l0_2 x7_2) != a1) = false := bne_eq_false_iff_eq.mpr c27
         clear c27
         have H' := Aside0.mk H
         clear H
         have hnb28 := NB222_223.out
         have hnc28 := NB223_222.out
         have hnb29 := NB222_226.out
         have hnc29 := NB226_222.out
         have hcz30_0 : wr.cell? ⟨gb222, 0, none⟩ = some (.int .i64 a0_0) := (blk_cell BK222.out 0).trans rfl
         have hcz30_1 : wr.cell? ⟨gb222, 1, none⟩ = some (.int .i64 a0_1) := (blk_cell BK222.out 1).trans rfl
         have hcz30_2 : wr.cell? ⟨gb222, 2, none⟩ = some (.slice A0_2 l0_2.length c0_2) := (blk_cell BK222.out 2).trans rfl
         have hfz30_0 := blk_frozen BK222.out 0
         have hfz30_1 := blk_frozen BK222.out 1
         have hfz30_2 := blk_frozen BK222.out 2
         have p227 : 0 ≤ (x7_2 : Int) := of_decide_eq_true (by first | (with_reducible assumption) | assumption)
         have q227 : x7_2 < (l0_2.length : Int) := of_decide_eq_true (by first | (with_reducible assumption) | assumption)
         obtain ⟨ad227, e227, hx227_0⟩ := Kd.at_int HR0_2.out x7_2 p227 q227
         cases e227
         replace hx227_0 := (HB.out.cell (World.block_lt_of_cell? w _ hx227_0)).trans hx227_0
         replace p227 := eq_true p227
         replace q227 := eq_true q227
         go_wp2
         go_roundg k2
         case measure => have := HJ2.out; have := HK2.out; omega
         case rel => exact ⟨(wrap64 (x7_2 + 1)), (x227002_2), (u227002), (by first | rfl | (simp; done) | (simp [*]; done)), H', ⟨by have := HJ2.out; have := HK2.out; omega⟩, ⟨by (with_reducible repeat (first | apply Kd.R_alloc | apply Kd.R_drewN | apply Kd.R_drew)); exact HO_227002.out⟩, ⟨by (with_reducible repeat (first | refine blk_drewN ?_ _ | refine blk_drew ?_ | refine blk_alloc ?_ _)); exact BK222.out⟩, ⟨by (with_reducible repeat (first | refine blk_drewN ?_ _ | refine blk_drew ?_ | refine blk_alloc ?_ _)); exact BK223.out⟩, ⟨by (with_reducible repeat (first | refine blk_drewN ?_ _ | refine blk_drew ?_ | refine blk_alloc ?_ _)); exact BK226.out⟩, ⟨by repeat (first | (with_reducible first | exact HB.out | apply below_alloc | apply pw_below_drewN | apply below_drew1 | refine below_set ?_ GE222.out | refine below_set ?_ GE223.out | refine below_set ?_ GE226.out) | exact HB.out)⟩⟩
        ·rw [if_neg c27] at H
         have c27b0 : ((rd l0_2 x7_2) == a1) = false := beq_eq_false_iff_ne.mpr c27
         have c27b1 : ((rd l0_2 x7_2) != a1) = true := bne_iff_ne.mpr c27
         by_cases c31 : x227002_2.length < 17592186044416
         ·rw [if_pos c31] at H
          have LMc31 := Aside0.mk c31
          clear c31
          obtain ⟨y229, hy229⟩ : ∃ y_ : List Int, y_ = (x227002_2 ++ [rd l0_2 x7_2]) := ⟨_, rfl⟩
          replace H : (spec_MendLink.l0 k2 a1 (wrap64 (x7_2 + 1)) a0_0 a0_1 l0_2 a0_0 a0_1 y229) = some (r1, r2, r3, r4) := by first | (rw [hy229]; with_reducible exact H) | (have H2_ := (Option.bind_some _ _).symm.trans H; rw [hy229]; with_reducible exact H2_) | (have H2_ := (Option.bind_some _ _).symm.trans H; with_reducible exact H2_) | with_reducible exact H | (rw [hy229]; exact H) | exact H
          have Ny229 := Aside0.mk hy229
          clear hy229
          have H' := Aside0.mk H
          clear H
          have hnb32 := NB222_223.out
          have hnc32 := NB223_222.out
          have hnb33 := NB222_226.out
          have hnc33 := NB226_222.out
          have hcz34_0 : wr.cell? ⟨gb222, 0, none⟩ = some (.int .i64 a0_0) := (blk_cell BK222.out 0).trans rfl
          have hcz34_1 : wr.cell? ⟨gb222, 1, none⟩ = some (.int .i64 a0_1) := (blk_cell BK222.out 1).trans rfl
          have hcz34_2 : wr.cell? ⟨gb222, 2, none⟩ = some (.slice A0_2 l0_2.length c0_2) := (blk_cell BK222.out 2).trans rfl
          have hfz34_0 := blk_frozen BK222.out 0
          have hfz34_1 := blk_frozen BK222.out 1
          have hfz34_2 := blk_frozen BK222.out 2
          have p227 : 0 ≤ (x7_2 : Int) := of_decide_eq_true (by first | (with_reducible assumption) | assumption)
          have q227 : x7_2 < (l0_2.length : Int) := of_decide_eq_true (by first | (with_reducible assumption) | assumption)
          obtain ⟨ad227, e227, hx227_0⟩ := Kd.at_int HR0_2.out x7_2 p227 q227
          cases e227
          replace hx227_0 := (HB.out.cell (World.block_lt_of_cell? w _ hx227_0)).trans hx227_0
          replace p227 := eq_true p227
          replace q227 := eq_true q227
          try go_wp2
          have n0_ := Aside0.mk (Kd.R_drew HO_227002.out)
          have n1_ := Aside0.mk (blk_drew BK222.out)
          have n2_ := Aside0.mk (blk_drew BK223.out)
          have n3_ := Aside0.mk (blk_drew BK226.out)
          have n4_ := Aside0.mk (below_drew1 HB.out)
          clear HO_227002
          clear BK222
          clear BK223
          clear BK226
          clear HB
          have HO_227002 := n0_
          have BK222 := n1_
          have BK223 := n2_
          have BK226 := n3_
          have HB := n4_
          clear n0_ n1_ n2_ n3_ n4_
          have p228 : 0 ≤ (x7_2 : Int) := of_decide_eq_true (by first | (with_reducible assumption) | assumption)
          have q228 : x7_2 < (l0_2.length : Int) := of_decide_eq_true (by first | (with_reducible assumption) | assumption)
          obtain ⟨ad228, e228, hx228_0⟩ := Kd.at_int HR0_2.out x7_2 p228 q228
          have hw228_0 := hx228_0
          obtain rfl : ad227 = ad228 := (by injection e228)
          replace hx228_0 := (HB.out.cell (World.block_lt_of_cell? w _ hx228_0)).trans hx228_0
          replace p228 := eq_true p228
          replace q228 := eq_true q228
          refine start_ (n := 11) (S := fun w' => w'.cell? ⟨gb226, 0, none⟩ = some (.int .i64 a0_0) ∧ w'.cell? ⟨gb226, 1, none⟩ = some (.int .i64 a0_1) ∧ w'.cell? ⟨gb226, 2, none⟩ = some (u227002) ∧ w'.cell? ⟨gb222, 0, none⟩ = some (.int .i64 a0_0) ∧ w'.cell? ⟨gb222, 1, none⟩ = some (.int .i64 a0_1) ∧ w'.cell? ⟨gb222, 2, none⟩ = some (.slice (some ad227) l0_2.length c0_2) ∧ w'.cell? (ad227.add (x7_2).toNat) = some (.int .i64 (rd l0_2 x7_2))) (ds := [10]) #[false, false, false, false, false, false, false, false, false, false, false] (by kernel_rfl) rfl rfl ⟨(blk_cell BK226.out 0).trans rfl, (blk_cell BK226.out 1).trans rfl, (blk_cell BK226.out 2).trans rfl, (blk_cell BK222.out 0).trans rfl, (blk_cell BK222.out 1).trans rfl, (blk_cell BK222.out 2).trans rfl, ((HB.out.cell (World.block_lt_of_cell? w _ hw228_0)).trans hw228_0)⟩ (fun hHeld => ?_); refine with_tabW spec_MendLink.tab8 spec_MendLink.bits8 (fun HT_ HW_ => ?_)
          generalize wr.drew = w35 at HO_227002 BK222 BK223 BK226 HB hx228_0 hHeld ⊢
          refine pure_ (i := 0) (N := some 38) (v := ?_) (a' := ?_) #[true, false, false, false, false, false, false, false, false, false, false] rfl rfl (any_of HT_.out (by kernel_rfl)) (fun _ _ _ h => h) (Or.inl ⟨by rfl, ?_⟩) ?_ ?_
          rotate_left
          ·intro w'
           go_simp
           with_reducible rfl
          rotate_left
          ·simp only [Act.put, List.setIfInBounds_toArray, List.set_cons_zero, List.set_cons_succ, i64_w, i32_w]
           rfl
          refine pure_ (i := 2) (N := some 40) (v := ?_) (a' := ?_) #[true, false, true, false, false, false, false, false, false, false, false] rfl rfl (any_of HT_.out (by kernel_rfl)) (fun _ _ _ h => h) (Or.inl ⟨by rfl, ?_⟩) ?_ ?_
          rotate_left
          ·intro w'
           go_simp
           with_reducible rfl
          rotate_left
          ·simp only [Act.put, List.setIfInBounds_toArray, List.set_cons_zero, List.set_cons_succ, i64_w, i32_w]
           rfl
          refine pure_ (i := 4) (N := some 42) (v := ?_) (a' := ?_) #[true, false, true, false, true, false, false, false, false, false, false] rfl rfl (any_of HT_.out (by kernel_rfl)) (fun _ _ _ h => h) (Or.inl ⟨by rfl, ?_⟩) ?_ ?_
          rotate_left
          ·intro w'
           go_simp
           with_reducible rfl
          rotate_left
          ·simp only [Act.put, List.setIfInBounds_toArray, List.set_cons_zero, List.set_cons_succ, i64_w, i32_w]
           rfl
          refine take_ (i := 1) (N := some 39) (v := ?_) (a' := ?_) #[true, true, true, false, true, false, false, false, false, false, false] rfl rfl (take_ofW HT_.out HW_.out (by kernel_rfl)) (fun _ _ _ h => h) (Or.inl ⟨by rfl, ?_⟩) hHeld ?_ ?_
          rotate_left
          ·rintro w' ⟨s0, s1, s2, s3, s4, s5, s6⟩
           go_simp
           with_reducible rfl
          rotate_left
          ·simp only [Act.put, List.setIfInBounds_toArray, List.set_cons_zero, List.set_cons_succ, i64_w, i32_w]
           rfl
          refine take_ (i := 3) (N := some 41) (v := ?_) (a' := ?_) #[true, true, true, true, true, false, false, false, false, false, false] rfl rfl (take_ofW HT_.out HW_.out (by kernel_rfl)) (fun _ _ _ h => h) (Or.inl ⟨by rfl, ?_⟩) hHeld ?_ ?_
          rotate_left
          ·rintro w' ⟨s0, s1, s2, s3, s4, s5, s6⟩
           go_simp
           with_reducible rfl
          rotate_left
          ·simp only [Act.put, List.setIfInBounds_toArray, List.set_cons_zero, List.set_cons_succ, i64_w, i32_w]
           rfl
          refine pure_ (i := 5) (N := some 43) (v := ?_) (a' := ?_) #[true, true, true, true, true, true, false, false, false, false, false] rfl rfl (any_of HT_.out (by kernel_rfl)) (fun _ _ _ h => h) (Or.inl ⟨by rfl, ?_⟩) ?_ ?_
          rotate_left
          ·intro w'
           go_simp
           with_reducible rfl
          rotate_left
          ·simp only [Act.put, List.setIfInBounds_toArray, List.set_cons_zero, List.set_cons_succ, i64_w, i32_w]
           rfl
          refine take_ (i := 6) (N := some 44) (v := ?_) (a' := ?_) #[true, true, true, true, true, true, true, false, false, false, false] rfl rfl (take_ofW HT_.out HW_.out (by kernel_rfl)) (fun _ _ _ h => h) (Or.inl ⟨by rfl, ?_⟩) hHeld ?_ ?_
          rotate_left
          ·rintro w' ⟨s0, s1, s2, s3, s4, s5, s6⟩
           go_simp
           with_reducible rfl
          rotate_left
          ·simp only [Act.put, List.setIfInBounds_toArray, List.set_cons_zero, List.set_cons_succ, i64_w, i32_w]
           rfl
          refine one_ (i := 7) (N := some 45) #[true, true, true, true, true, true, true, true, false, false, false] rfl rfl (one_of HT_.out (by kernel_rfl)) (by decide) (fun K hK => ?_)
          refine value_ (w1 := ?_) (v := ?_) (by rfl) rfl ?_ ?_
          rotate_left 2
          ·go_simp
           constructor
           ·rfl
           ·rfl
          refine hK.out _ _ ⟨(blk_cell (blk_alloc BK226.out _) 0).trans rfl, (blk_cell (blk_alloc BK226.out _) 1).trans rfl, (blk_cell (blk_alloc BK226.out _) 2).trans rfl, (blk_cell (blk_alloc BK222.out _) 0).trans rfl, (blk_cell (blk_alloc BK222.out _) 1).trans rfl, (blk_cell (blk_alloc BK222.out _) 2).trans rfl, (World.cell?_alloc_lt _ _ _ (World.block_lt_of_cell? _ _ (((HB.out.cell (World.block_lt_of_cell? w _ hw228_0)).trans hw228_0)))).trans (((HB.out.cell (World.block_lt_of_cell? w _ hw228_0)).trans hw228_0))⟩ (fun hHeld => ?_)
          clear hK K
          refine norm_ (a' := ?_) ?_ ?_
          rotate_left
          ·show Act.put _ (some 45) _ = _
           simp only [Act.put, List.setIfInBounds_toArray, List.set_cons_zero, List.set_cons_succ, i64_w, i32_w]
           rfl
          refine one_ (i := 8) (N := some 46) #[true, true, true, true, true, true, true, true, true, false, false] rfl rfl (one_of HT_.out (by kernel_rfl)) (by decide) (fun K hK => ?_)
          refine Kd.R_append_step (Kd.int .i64) (w0 := w) w.heap.size (by rfl) (.tmp 39) (.tmp 45) 23 3 (.int .i64 0) 8 rfl Try.underlying23 info3 rfl (by decide) (by omega) u227002 x227002_2 (rd l0_2 x7_2) [.int .i64 (rd l0_2 x7_2)] (fun _ => True) (fun _ => False) rfl rfl ?aP (fun _ hk => hk.elim) ?aF ?aO ?aB ?aS ?aL ?_
          (case aP => exact rfl)
          (case aB => exact (by repeat (first | (with_reducible first | exact HB.out | apply below_alloc | apply pw_below_drewN | apply below_drew1 | refine below_set ?_ GE222.out | refine below_set ?_ GE223.out | refine below_set ?_ GE226.out) | exact HB.out)))
          (case aF => exact (fun _ _ => trivial))
          (case aO => exact (by (with_reducible repeat (first | apply Kd.R_alloc | apply Kd.R_drewN | apply Kd.R_drew)); exact HO_227002.out))
          (case aS => exact (below_size (by repeat (first | (with_reducible first | exact HB.out | apply below_alloc | apply pw_below_drewN | apply below_drew1 | refine below_set ?_ GE222.out | refine below_set ?_ GE223.out | refine below_set ?_ GE226.out) | exact HB.out))))
          (case aL => have := LMc31.out; omega)
          intro v230 w36 ho hb hg hat
          rw [← Ny229.out] at ho
          have n0_ := Aside0.mk (blk_grown (g := gb222) (o := .cells #[.int .i64 a0_0, .int .i64 a0_1, .slice (some ad227) l0_2.length c0_2] 25 (0, 0)) (by (with_reducible repeat (first | refine blk_drewN ?_ _ | refine blk_drew ?_ | refine blk_alloc ?_ _)); exact BK222.out) hg (Kd.R_ne HO_227002.out BK222.out (by decide)))
          have n1_ := Aside0.mk (blk_grown (g := gb223) (o := .cells #[.int .i64 0, .int .i64 0, .slice none 0 0] 25 (0, 0)) (by (with_reducible repeat (first | refine blk_drewN ?_ _ | refine blk_drew ?_ | refine blk_alloc ?_ _)); exact BK223.out) hg (Kd.R_ne HO_227002.out BK223.out (by decide)))
          have n2_ := Aside0.mk (blk_grown (g := gb226) (o := .cells #[.int .i64 a0_0, .int .i64 a0_1, u227002] 25 (0, 0)) (by (with_reducible repeat (first | refine blk_drewN ?_ _ | refine blk_drew ?_ | refine blk_alloc ?_ _)); exact BK226.out) hg (Kd.R_ne HO_227002.out BK226.out (by decide)))
          have n3_ := Aside0.mk (hb)
          have n4_ := Aside0.mk (ho)
          clear BK222
          clear BK223
          clear BK226
          clear HB
          clear HO_227002
          have BK222 := n0_
          have BK223 := n1_
          have BK226 := n2_
          have HB := n3_
          have HO231 := n4_
          clear n0_ n1_ n2_ n3_ n4_
          clear ho hb hg hat
          obtain ⟨Ao37, co37, eo37⟩ := Kd.R_slice HO231.out
          (first | subst eo37 | (injection eo37 with f1_ f2_ f3_; have f4_ := f1_.symm; have f5_ := f3_.symm; clear f1_ f2_ f3_; subst f4_; subst f5_))
          refine hK.out _ _ ⟨(blk_cell BK226.out 0).trans rfl, (blk_cell BK226.out 1).trans rfl, (blk_cell BK226.out 2).trans rfl, (blk_cell BK222.out 0).trans rfl, (blk_cell BK222.out 1).trans rfl, (blk_cell BK222.out 2).trans rfl, ((HB.out.cell (World.block_lt_of_cell? w _ hw228_0)).trans hw228_0)⟩ (fun hHeld => ?_)
          clear hK K
          refine norm_ (a' := ?_) ?_ ?_
          rotate_left
          ·show Act.put _ (some 46) _ = _
           simp only [Act.put, List.setIfInBounds_toArray, List.set_cons_zero, List.set_cons_succ, i64_w, i32_w]
           rfl
          refine pure_ (i := 9) (N := some 47) (v := ?_) (a' := ?_) #[true, true, true, true, true, true, true, true, true, true, false] rfl rfl (any_of HT_.out (by kernel_rfl)) (fun _ _ _ h => h) (Or.inl ⟨by rfl, ?_⟩) ?_ ?_
          rotate_left
          ·intro w'
           go_simp
           with_reducible rfl
          rotate_left
          ·simp only [Act.put, List.setIfInBounds_toArray, List.set_cons_zero, List.set_cons_succ, i64_w, i32_w]
           rfl
          refine last_ (i := 10) (N := none) #[true, true, true, true, true, true, true, true, true, true, true] rfl rfl (one_of HT_.out (by kernel_rfl)) (by decide) (fun K hK => ?_)
          have hs38 : w36.cell? ⟨gb226, 2, none⟩ = some (u227002) := (blk_cell BK226.out 2).trans rfl
          have hfs38 := blk_frozen BK226.out 2
          have hns38_0 := NB222_226.out
          have hns38_1 := NB223_226.out
          have hms38_0 := NB226_222.out
          have hms38_1 := NB226_223.out
          refine skip_ (w1 := ?_) (by rfl) rfl ?_ ?_
          rotate_left
          ·go_simp
           rfl
          refine hK.out _ _ ?_
          clear hK K
          refine done_ (done_of HT_.out (by kernel_rfl)) ?_
          try go_wp2
          go_roundg k2
          case measure => have := HJ2.out; have := HK2.out; omega
          case rel => exact ⟨(wrap64 (x7_2 + 1)), (y229), (.slice Ao37 y229.length co37), (by first | rfl | (simp; done) | (simp [*]; done)), H', ⟨by have := HJ2.out; have := HK2.out; omega⟩, ⟨by (with_reducible repeat (first | apply Kd.R_alloc | apply Kd.R_drewN | apply Kd.R_drew)); exact Kd.R_mono (Kd.R_far (p := ⟨gb226, 2, none⟩) (Kd.R_types HO231.out BK226.out (by decide)) (fun _ hk => hk.2) (.slice Ao37 y229.length co37)) (fun _ hk => trivial)⟩, ⟨by (with_reducible repeat (first | refine blk_drewN ?_ _ | refine blk_drew ?_ | refine blk_alloc ?_ _)); refine blk_far ?_ NB222_226.out _; (with_reducible repeat (first | refine blk_drewN ?_ _ | refine blk_drew ?_ | refine blk_alloc ?_ _)); exact BK222.out⟩, ⟨by (with_reducible repeat (first | refine blk_drewN ?_ _ | refine blk_drew ?_ | refine blk_alloc ?_ _)); refine blk_far ?_ NB223_226.out _; (with_reducible repeat (first | refine blk_drewN ?_ _ | refine blk_drew ?_ | refine blk_alloc ?_ _)); exact BK223.out⟩, ⟨by (with_reducible repeat (first | refine blk_drewN ?_ _ | refine blk_drew ?_ | refine blk_alloc ?_ _)); refine blk_put (cs := #[.int .i64 a0_0, .int .i64 a0_1, u227002]) ?_ 2 _ rfl; (with_reducible repeat (first | refine blk_drewN ?_ _ | refine blk_drew ?_ | refine blk_alloc ?_ _)); exact BK226.out⟩, ⟨by repeat (first | (with_reducible first | exact HB.out | apply below_alloc | apply pw_below_drewN | apply below_drew1 | refine below_set ?_ GE222.out | refine below_set ?_ GE223.out | refine below_set ?_ GE226.out) | exact HB.out)⟩⟩
         ·rw [if_neg c31] at H
          exact absurd H (by simp)
       ·rw [if_neg c26] at H
        exact absurd H (by simp)
      ·rw [if_neg c25] at H
       have c25b0 : decide (x7_2 < (l0_2.length : Int)) = false := decide_eq_false c25
       clear c25
       simp only [Option.some.injEq, Prod.mk.injEq] at H
       obtain ⟨rfl, rfl, rfl, rfl⟩ := H
       have hnb39 := NB222_223.out
       have hnc39 := NB223_222.out
       have hnb40 := NB222_226.out
       have hnc40 := NB226_222.out
       have hcz41_0 : wr.cell? ⟨gb222, 0, none⟩ = some (.int .i64 a0_0) := (blk_cell BK222.out 0).trans rfl
       have hcz41_1 : wr.cell? ⟨gb222, 1, none⟩ = some (.int .i64 a0_1) := (blk_cell BK222.out 1).trans rfl
       have hcz41_2 : wr.cell? ⟨gb222, 2, none⟩ = some (.slice A0_2 l0_2.length c0_2) := (blk_cell BK222.out 2).trans rfl
       have hfz41_0 := blk_frozen BK222.out 0
       have hfz41_1 := blk_frozen BK222.out 1
       have hfz41_2 := blk_frozen BK222.out 2
       have hnb42 := NB226_223.out
       have hnc42 := NB223_226.out
       have hcz43_0 : wr.cell? ⟨gb226, 0, none⟩ = some (.int .i64 a0_0) := (blk_cell BK226.out 0).trans rfl
       have hcz43_1 : wr.cell? ⟨gb226, 1, none⟩ = some (.int .i64 a0_1) := (blk_cell BK226.out 1).trans rfl
       have hcz43_2 : wr.cell? ⟨gb226, 2, none⟩ = some (u227002) := (blk_cell BK226.out 2).trans rfl
       have hfz43_0 := blk_frozen BK226.out 0
       have hfz43_1 := blk_frozen BK226.out 1
       have hfz43_2 := blk_frozen BK226.out 2
       have hcz44_0 : wr.cell? ⟨gb223, 0, none⟩ = some (.int .i64 0) := (blk_cell BK223.out 0).trans rfl
       have hcz44_1 : wr.cell? ⟨gb223, 1, none⟩ = some (.int .i64 0) := (blk_cell BK223.out 1).trans rfl
       have hcz44_2 : wr.cell? ⟨gb223, 2, none⟩ = some (.slice none 0 0) := (blk_cell BK223.out 2).trans rfl
       have hfz44_0 := blk_frozen BK223.out 0
       have hfz44_1 := blk_frozen BK223.out 1
       have hfz44_2 := blk_frozen BK223.out 2
       obtain ⟨Ao45, co45, eo45⟩ := Kd.R_slice HO_227002.out
       subst eo45
       go_wp2
       refine bodyPost_ret (results_ct rfl _ _ gb223 25 #[.int .i64 a0_0, .int .i64 a0_1, .slice Ao45 x227002_2.length co45] (0, 0) _ rfl (by (with_reducible repeat (first | refine blk_drewN ?_ _ | refine blk_drew ?_ | refine blk_alloc ?_ _)); refine blk_put (cs := #[.int .i64 a0_0, .int .i64 a0_1, .slice none 0 0]) ?_ 2 _ rfl; (with_reducible repeat (first | refine blk_drewN ?_ _ | refine blk_drew ?_ | refine blk_alloc ?_ _)); refine blk_put (cs := #[.int .i64 a0_0, .int .i64 0, .slice none 0 0]) ?_ 1 _ rfl; (with_reducible repeat (first | refine blk_drewN ?_ _ | refine blk_drew ?_ | refine blk_alloc ?_ _)); refine blk_put (cs := #[.int .i64 0, .int .i64 0, .slice none 0 0]) ?_ 0 _ rfl; (with_reducible repeat (first | refine blk_drewN ?_ _ | refine blk_drew ?_ | refine blk_alloc ?_ _)); exact BK223.out) Try.underlying25 rfl (by kernel_rfl)) rfl ?_
       exact ⟨_, by first | rfl | (simp [errW_none, errW_some] <;> rfl) | (simp [*, errW_none, errW_some] <;> rfl), by (with_reducible repeat (first | apply Kd.R_alloc | apply Kd.R_drewN | apply Kd.R_drew)); exact Kd.R_mono (Kd.R_far (p := ⟨gb223, 2, none⟩) (Kd.R_far (p := ⟨gb223, 1, none⟩) (Kd.R_far (p := ⟨gb223, 0, none⟩) (Kd.R_types HO_227002.out BK223.out (by decide)) (fun _ hk => hk.2) (.int .i64 a0_0)) (fun _ hk => hk.2) (.int .i64 a0_1)) (fun _ hk => hk.2) (.slice Ao45 x227002_2.length co45)) (fun _ hk => trivial), by repeat (first | (with_reducible first | exact HB.out | apply below_alloc | apply pw_below_drewN | apply below_drew1 | refine below_set ?_ GE222.out | refine below_set ?_ GE223.out | refine below_set ?_ GE226.out) | exact HB.out)⟩

/-! ### impl_Ring_link: function 54 -/
def impl_Ring_link.f (a0_0 : Int) (a0_1 : Int) (l0_2 : List Int) (a1 : Int) : Option (Bool) := (impl_Ring_station.f a0_0 a0_1 l0_2 a1).bind fun t244 => (some t244)
set_option maxHeartbeats 8000000 in
set_option maxRecDepth 100000 in
theorem impl_Ring_link.calls (a0_0 : Int) (a0_1 : Int) (A0_2 : Option Addr) (c0_2 : Nat) (l0_2 : List Int) (a1 : Int) (r : Bool) (w : World) (hr0_2 : Kd.C (Kd.int .i64) w A0_2 l0_2.length l0_2) (hc0_2 : l0_2.length ≤ c0_2) (h : impl_Ring_link.f a0_0 a0_1 l0_2 a1 = some r) :
  Calls Try.prog 54 #[.agg #[.int .i64 a0_0, .int .i64 a0_1, .slice A0_2 l0_2.length c0_2], .int .i64 a1] w fun e w' => e = .returned (.bool r) ∧ Below w.heap.size w w' := by
 have hu25 := Try.underlying25
 have HR0_2 := Aside0.mk hr0_2
 have HC0_2 := Aside0.mk hc0_2
 clear hr0_2 hc0_2
 have HB := Aside0.mk (Below.refl w.heap.size w)
 have H : ((impl_Ring_station.f a0_0 a0_1 l0_2 a1).bind fun t244 => (some t244)) = some r := h
 clear h
 replace H := Option.bind_eq_some_iff.mp H
 obtain ⟨t244, A30, H⟩ := H
 replace H : (some t244) = some r := H
 have A3 := Aside0.mk A30
 clear A30
 obtain rfl := Option.some.inj H
 go_enter Try.func54, Try.ntmps54
 go_wp2_with (first | ((with_reducible refine gate_dst (N := 2) rfl ?_); refine box_event ?hg (N := 2) ?hd (cs := #[.int .i64 a0_0, .int .i64 a0_1, .slice A0_2 l0_2.length c0_2]) (t := 25) ?hr ?_; (case hd => rfl); (case hg => rfl); (case hr => first | (go_simp; done) | (go_simp; rfl)); intro gb243 hg w4 hbox hb; have n0_ := Aside0.mk (below_step (by repeat (first | (with_reducible first | exact HB.out | apply below_alloc | apply pw_below_drewN | apply below_drew1) | exact HB.out)) hb); have n1_ := Aside0.mk (hbox); have n2_ := Aside0.mk ((by rw [hg]; exact (below_size (by repeat (first | (with_reducible first | exact HB.out | apply below_alloc | apply pw_below_drewN | apply below_drew1) | exact HB.out))) : w.heap.size ≤ gb243)); have n3_ := Aside0.mk ((by rw [hg]; exact (below_size (by repeat (first | (with_reducible first | exact HB.out | apply below_alloc | apply pw_below_drewN | apply below_drew1) | exact HB.out))) : w.heap.size ≤ gb243)); clear HB; have HB := n0_; have BK243 := n1_; have GW243 := n2_; have GE243 := n3_; clear n0_ n1_ n2_ n3_; clear hb hbox hg; have hcz5_0 : w4.cell? ⟨gb243, 0, none⟩ = some (.int .i64 a0_0) := (blk_cell BK243.out 0).trans rfl; have hcz5_1 : w4.cell? ⟨gb243, 1, none⟩ = some (.int .i64 a0_1) := (blk_cell BK243.out 1).trans rfl; have hcz5_2 : w4.cell? ⟨gb243, 2, none⟩ = some (.slice A0_2 l0_2.length c0_2) := (blk_cell BK243.out 2).trans rfl; have hfz5_0 := blk_frozen BK243.out 0; have hfz5_1 := blk_frozen BK243.out 1; have hfz5_2 := blk_frozen BK243.out 2) | ((with_reducible refine gate_callee (f := 49) rfl ?_); refine goesL_ (some 7) rfl rfl Try.func49 (by kernel_rfl) rfl #[.agg #[.int .i64 a0_0, .int .i64 a0_1, .slice A0_2 l0_2.length c0_2], .int .i64 a1] rfl (by (try simp only [List.map_toArray, List.map_cons, List.map_nil]); first | done | rfl | (simp only [List.length_drop, List.length_take]; rfl)) ?_; (with_reducible refine (impl_Ring_station.calls a0_0 a0_1 _ _ l0_2 a1 t244 _ ?side1 ?side2 A3.out).mono ?_); (case side1 => repeat (first | exact (Kd.C_below HR0_2.out HB.out) | (with_reducible refine Kd.C_alloc ?_ _) | (with_reducible refine Kd.C_drewN ?_ _) | (with_reducible refine Kd.C_drew ?_))); (case side2 => exact HC0_2.out); rintro e w6 ⟨rfl, hb⟩; refine ⟨_, rfl, ?_⟩; have n0_ := Aside0.mk (blk_below (g := gb243) (o := .cells #[.int .i64 a0_0, .int .i64 a0_1, .slice A0_2 l0_2.length c0_2] 25 (0, 0)) (by (with_reducible repeat (first | refine blk_drewN ?_ _ | refine blk_drew ?_ | refine blk_alloc ?_ _)); exact BK243.out) hb); have n1_ := Aside0.mk (below_step (by repeat (first | (with_reducible first | exact HB.out | apply below_alloc | apply pw_below_drewN | apply below_drew1 | refine below_set ?_ GE243.out) | exact HB.out)) hb); clear BK243; clear HB; have BK243 := n0_; have HB := n1_; clear n0_ n1_; (try clear hb); (try clear hb2); (try clear hk); (try clear hi)))
 go_ret
 exact ⟨by first | rfl | (simp [errW_none, errW_some] <;> rfl) | (simp [*, errW_none, errW_some] <;> rfl), by repeat (first | (with_reducible first | exact HB.out | apply below_alloc | apply pw_below_drewN | apply below_drew1 | refine below_set ?_ GE243.out) | exact HB.out)⟩

/-! ### slices_Clone_int_int: function 57 (by hand) -/
def slices_Clone_int_int.f (l0 : List Int) : Option (List Int) :=
 if l0.length < 17592186044416 then some l0 else none
set_option maxHeartbeats 4000000 in
set_option maxRecDepth 100000 in
theorem slices_Clone_int_int.calls (A0 : Option Addr) (c0 : Nat) (l0 : List Int) (r : List Int) (w : World) (hr0 : Kd.C (Kd.int .i64) w A0 l0.length l0) (hc0 : l0.length ≤ c0) (h : slices_Clone_int_int.f l0 = some r) :
  Calls Try.prog 57 #[.slice A0 l0.length c0] w fun e w' => ∃ v0_ : Value, e = .returned (v0_) ∧ Kd.R (Kd.int .i64) 3 w' w.heap.size (fun _ => True) v0_ r ∧ Below w.heap.size w w' := by
 unfold slices_Clone_int_int.f at h
 by_cases hl : l0.length < 17592186044416
 ·rw [if_pos hl] at h
  obtain rfl := Option.some.inj h
  clear h
  cases A0 with
  | none =>
   cases l0 with
   | cons x t =>
    obtain ⟨ad, e, _⟩ := Kd.at_int hr0 (0 : Int) (by omega) (by simp)
    cases e
   | nil =>
    have heq : ∀ w, (binOp .eql 23 (.slice none 0 c0) (.slice none 0 0)).run Try.prog w = .ok (.bool true) w := fun w => Lib.run_eql_slice_nil (P := Try.prog) w 23 3 none 0 c0 0 0 Try.underlying23
    clear hr0 hc0 hl
    simp only [List.length_nil]
    go_enter Try.func57, Try.ntmps57
    go_wp2
    go_ret
    exact ⟨_, rfl, Kd.R_nil _ _ _ _ _, Below.refl _ w⟩
  | some ad =>
   have heq : ∀ w, (binOp .eql 23 (.slice (some ad) l0.length c0) (.slice none 0 0)).run Try.prog w = .ok (.bool false) w := fun w => Lib.run_eql_slice_nil (P := Try.prog) w 23 3 (some ad) l0.length c0 0 0 Try.underlying23
   have HR := Aside0.mk hr0
   have HL := Aside0.mk hl
   clear hr0 hl
   go_enter Try.func57, Try.ntmps57
   go_wp2_with (first | ((with_reducible refine gate_dst (N := 5) rfl ?_); refine Kd.R_lit (w0 := w) (Kd.int .i64) _ 3 ?hg (N := 5) ?hd (xs := ([] : List Int)) (inner := []) (ok := fun _ => True) (okp := fun _ => True) ?hr ?hp (fun _ hk => hk) trivial (Below.refl _ _) (Nat.le_refl _) (by simp) ?_; (case hd => rfl); (case hg => rfl); (case hr => first | (go_simp; done) | (go_simp; rfl)); (case hp => exact (Reps.none _ _)); intro v1 w1 ho hb _ _; have HO := Aside0.mk ho; have HB := Aside0.mk hb; clear ho hb) | ((with_reducible refine gate_dst (N := 7) rfl ?_); refine Kd.R_append_rows (Kd.int .i64) (w0 := w) w.heap.size rfl (.tmp 5) (.tmp 6) 23 3 (.int .i64 0) 8 rfl Try.underlying23 (by kernel_rfl) rfl (by decide) (by omega) v1 [] l0 _ _ _ (fun _ => True) (fun _ => False) rfl rfl HO.out (Kd.C_below HR.out HB.out) (fun _ _ h => h) (fun _ h => h.elim) (fun _ _ => trivial) HB.out HB.out.size (by have := HL.out; simp only [List.length_nil]; omega) ?_; intro v2 w2 ho hb _ _; rw [List.nil_append] at ho; have HO2 := Aside0.mk ho; have HB2 := Aside0.mk hb; clear ho hb))
   go_ret
   exact ⟨_, rfl, HO2.out, HB2.out⟩
 ·rw [if_neg hl] at h
  cases h

-- LIB deletefunc
theorem R_clears {W : World} {base g cap : Nat} {ok : Nat → Prop} {n : Nat} (m : Nat) : ∀ (o : Nat) (W : World) (xs : List Int), Kd.R (Kd.int .i64) 3 W base ok (.slice (some ⟨g, 0, none⟩) n cap) xs →
    ∃ ys, Kd.R (Kd.int .i64) 3 (W.setCells g o (List.replicate m (.int .i64 0))) base ok (.slice (some ⟨g, 0, none⟩) n cap) ys ∧ ys.take o = xs.take o := by
  induction m with
  | zero => exact fun o W xs h => ⟨xs, h, rfl⟩
  | succ m ih =>
    intro o W xs h
    have h1 := (Kd.R_putg h (o : Int) (0 : Int)).1
    rw [Int.toNat_natCast] at h1
    obtain ⟨ys, h2, h3⟩ := ih (o + 1) _ _ h1
    refine ⟨ys, h2, ?_⟩
    have e : ys.take o = (ys.take (o + 1)).take o := by rw [List.take_take, Nat.min_eq_left (by omega)]
    rw [e, h3, List.take_take, Nat.min_eq_left (by omega), List.take_set_of_le (Nat.le_refl o)]
theorem below_clears {w0 : World} {g : Nat} (hg : w0.heap.size ≤ g) (vs : List Value) : ∀ (o : Nat) (W : World), Below w0.heap.size w0 W → Below w0.heap.size w0 (W.setCells g o vs) := by
  induction vs with
  | nil => exact fun _ _ h => h
  | cons v vs ih => exact fun o W h => ih (o + 1) _ (below_set h hg)
theorem idxL_hit (p : Int → Bool) (l : List Int) : ∀ k, l.any p = true → ∃ i, ∃ h : i < l.length, idxL p l k = ((k + i : Nat) : Int) ∧ p l[i] = true ∧ (l.take i).filter (fun x => !p x) = l.take i := by
  induction l with
  | nil => intro k h; cases h
  | cons x t ih =>
    intro k h
    by_cases c : p x = true
    · exact ⟨0, by simp, by rw [idxL, if_pos c]; rfl, c, rfl⟩
    · have ht : t.any p = true := by rw [List.any_cons, Bool.eq_false_iff.2 c, Bool.false_or] at h; exact h
      obtain ⟨i, hi, e, hp, hf⟩ := ih (k + 1) ht
      refine ⟨i + 1, by simp; omega, by rw [idxL, if_neg c, e]; congr 1; omega, hp, ?_⟩
      rw [List.take_succ_cons, List.filter_cons_of_pos (by simp [c]), hf]
theorem filter_take_succ (p : Int → Bool) (l : List Int) (j : Nat) (h : j < l.length) : (l.take (j + 1)).filter p = if p l[j] = true then (l.take j).filter p ++ [l[j]] else (l.take j).filter p := by
  rw [List.take_succ_eq_append_getElem h, List.filter_append]
  split
  · rename_i c; rw [List.filter_cons_of_pos c]; rfl
  · rename_i c; rw [List.filter_cons_of_neg c]; simp
set_option maxHeartbeats 8000000 in
set_option maxRecDepth 100000 in
theorem x_DeleteFunc_int (p : Int → Bool) (g : Nat) (lb : Array Value) (eg : ∀ args w, (callFunc g args).run Try.prog w = .ok (.enter g args) w) (w0 w : World) (gb cap : Nat) (l : List Int) (hn : l.length ≤ 1000) (hany : l.any p = true)
    (hp : PredB Try.prog g lb (Value.int .i64) p w0) (HB : Below w0.heap.size w0 w) (hgb : w0.heap.size ≤ gb) (HO : Kd.R (Kd.int .i64) 3 w w0.heap.size (fun _ => True) (.slice (some ⟨gb, 0, none⟩) l.length cap) l) :
    Calls Try.prog 56 #[.slice (some ⟨gb, 0, none⟩) l.length cap, .func (.func g) #[] lb] w fun e w' => ∃ v : Value, e = .returned v ∧ Kd.R (Kd.int .i64) 3 w' w0.heap.size (fun _ => True) v (l.filter fun x => !p x) ∧ Below w0.heap.size w0 w' := by
  obtain ⟨_, hcap, hC⟩ := Kd.R_reads' HO
  have hix := x_IndexFunc_int p g lb eg (some ⟨gb, 0, none⟩) cap l w (hp.later HB) hC
  obtain ⟨k0, hk0, e0, hp0, hf0⟩ := idxL_hit p l 0 hany
  rw [e0, Nat.zero_add] at hix
  have HR := Aside0.mk HO
  have HBw := Aside0.mk HB
  have HP := Aside0.mk hp
  have HF0 := Aside0.mk hf0
  have HP0 := Aside0.mk hp0
  have HK0 := Aside0.mk hk0
  have HN := Aside0.mk hn
  have hne1 : ((k0 : Int) = -1) = False := eq_false (by omega)
  clear hp HB HO hC hany e0 hp0 hf0
  go_enter Try.func56, Try.ntmps56
  go_wp2_with (go_at_call 68; refine hix.mono ?_; rintro e w1 ⟨rfl, hb1⟩)
  have HR1 := Aside0.mk (Kd.R_below HR.out hb1)
  have HB1 := Aside0.mk (below_step HBw.out hb1)
  clear hix hb1 HR HBw
  go_loopg [5, 6, 7] l.length (fun gg s5 s6 _ wr => ∃ (i j : Nat) (L : List Int), s5 = .int .i64 i ∧ s6 = .int .i64 j ∧ j ≤ l.length ∧ l.length - j ≤ gg ∧ i < j ∧ Aside0 (Kd.R (Kd.int .i64) 3 wr w0.heap.size (fun _ => True) (.slice (some ⟨gb, 0, none⟩) l.length cap) L) ∧ Aside0 (L.take i = (l.take j).filter fun x => !p x) ∧ Aside0 (L.drop j = l.drop j) ∧ Aside0 (Below w0.heap.size w0 wr))
  case atStart =>
    have hk := HK0.out
    exact ⟨k0, k0 + 1, l, rfl, by go_num, by omega, by omega, by omega, HR1, ⟨by rw [filter_take_succ _ _ _ hk, if_neg (by simp [HP0.out]), HF0.out]⟩, ⟨rfl⟩, HB1⟩
  case round =>
    clear HR1 HB1 HF0 HP0 HK0 hk0 hne1
    obtain ⟨i, j, L, rfl, rfl, hj, hgg, hij, HO, HT, HD, BW⟩ := hrel
    have hLl : L.length = l.length := (Kd.R_reads' HO.out).1.symm
    by_cases hlt : j < l.length
    · obtain ⟨hx, hf⟩ := Kd.R_celln 0 HO.out (j : Int) (by omega) (by omega)
      have hu : rdOf 0 L (j : Int) = l[j] := by
        have := congrArg (fun t => t[0]?) HD.out
        simp only [List.getElem?_drop, Nat.add_zero] at this
        simp [rdOf, List.getD_eq_getElem?_getD, this, hlt]
      rw [hu, Int.toNat_natCast] at hx
      rw [Int.toNat_natCast] at hf
      have HFT := Aside0.mk (filter_take_succ (fun x => !p x) l j hlt)
      have HDL : Aside0 (l.drop j = l[j] :: l.drop (j + 1)) := ⟨List.drop_eq_getElem_cons hlt⟩
      obtain ⟨u, hue⟩ : ∃ u, u = l[j] := ⟨_, rfl⟩
      rw [← hue] at hx HFT HDL
      have hcall := HP.out wr u BW.out
      have p1 : ((j : Int) < (l.length : Int)) = True := eq_true (by omega)
      clear hu hue
      cases hq : p u with
      | true =>
        rw [hq] at hcall
        have HQ := Aside0.mk hq
        clear hq
        go_wp2_with (go_at_fn g; refine hcall.mono ?_; rintro e w' ⟨rfl, hb'⟩)
        go_roundg (l.length - (j + 1))
        case measure => omega
        case rel => exact ⟨i, j + 1, L, rfl, by go_num, by omega, by omega, by omega, ⟨Kd.R_below HO.out hb'⟩, ⟨by rw [HT.out, HFT.out, if_neg (by simp [HQ.out])]⟩, ⟨by have := congrArg (List.drop 1) HD.out; rw [List.drop_drop, HDL.out] at this; rw [Nat.add_comm] at this; exact (by simpa [Nat.add_comm] using this)⟩, ⟨below_step BW.out hb'⟩⟩
      | false =>
        rw [hq] at hcall
        have HQ := Aside0.mk hq
        clear hq
        go_wp2_with (go_at_fn g; refine hcall.mono ?_; rintro e w' ⟨rfl, hb'⟩; have HO' := Aside0.mk (Kd.R_below HO.out hb'); have HB' := Aside0.mk (below_step BW.out hb'); obtain ⟨hxi, hfi⟩ := Kd.R_celln 0 HO'.out (i : Int) (by omega) (by omega); rw [Int.toNat_natCast] at hxi hfi; clear hx hf hb')
        go_roundg (l.length - (j + 1))
        case measure => omega
        case rel =>
          have hput := (Kd.R_putg HO'.out (i : Int) u).1
          rw [Int.toNat_natCast] at hput
          exact ⟨i + 1, j + 1, L.set i u, by go_num, by go_num, by omega, by omega, by omega, ⟨hput⟩, ⟨by rw [HFT.out, if_pos (by simp [HQ.out]), ← HT.out, List.take_add_one, List.take_set_of_le (Nat.le_refl i), List.getElem?_set_self (by omega)]; rfl⟩, ⟨by have := congrArg (List.drop 1) HD.out; rw [List.drop_drop, HDL.out] at this; rw [List.drop_set_of_lt (by omega)]; exact (by simpa [Nat.add_comm] using this)⟩, ⟨below_set HB'.out hgb⟩⟩
    · obtain rfl : j = l.length := by omega
      have hcl : ∀ ty, (Builtin.clear_ #[23] ty #[.slice (some ⟨gb, i, none⟩) (l.length - i) (cap - i)]).run Try.prog wr = .ok (.tuple #[]) (wr.setCells gb i (List.replicate (l.length - i) (.int .i64 0))) :=
        fun ty => Lib.run_clear_slice wr _ _ ty _ Try.underlying23 Try.zeroValue3 rfl rfl gb i _ _ (by omega) (fun t ht => by have h := (Kd.R_celln 0 HO.out ((i + t : Nat) : Int) (by omega) (by omega)).1; rw [Int.toNat_natCast] at h; rw [h]; rfl) (fun t ht => (Kd.R_celln 0 HO.out ((i + t : Nat) : Int) (by omega) (by omega)).2)
      obtain ⟨ys, hy1, hy2⟩ := R_clears (W := wr) (l.length - i) i wr L HO.out
      have hyt := Kd.R_take hy1 (m := i) (by have := (Kd.R_reads' hy1).1; omega)
      rw [hy2, HT.out, List.take_length] at hyt
      have HY := Aside0.mk hyt
      have HBY := Aside0.mk (below_clears hgb (List.replicate (l.length - i) (.int .i64 0)) i wr BW.out)
      have hNN := HN.out
      clear hy1 hy2 hyt HO HT HD BW
      go_wp2_with (simp only [hcl])
      go_ret
      exact ⟨_, rfl, HY.out, HBY.out⟩

/-! ### impl_MendLink: function 23 (by hand) -/
set_option maxHeartbeats 4000000 in
set_option maxRecDepth 100000 in
theorem x_Mend_1 {n : Int} {b : Nat} {w : World} (hb : b < w.heap.size) (hc : w.cell? ⟨b, 0, none⟩ = some (.int .i64 n)) :
  PredB Try.prog 58 #[.pointer (some ⟨b, 0, none⟩)] (Value.int .i64) (fun x => x == n) w := by
 intro W x hB
 have hc' := (hB.cell (p := ⟨b, 0, none⟩) hb).trans hc
 have hr := Below.refl W.heap.size W
 clear hc hB hb
 go_enter Try.func58, Try.ntmps58
 go_wp2
 go_ret
 exact ⟨rfl, hr⟩
def impl_MendLink.f (k : Nat) (a0_0 : Int) (a0_1 : Int) (l0_2 : List Int) (a1 : Int) : Option (Int × Int × List Int × Bool) :=
 (impl_Ring_link.f a0_0 a0_1 l0_2 a1).bind fun t => if t = true then ((slices_Contains_int_int.f k l0_2 a1).bind fun u => if u = true then (if (l0_2.any fun x => x == a1) = true ∧ l0_2.length ≤ 1000 then some (a0_0, a0_1, l0_2.filter (fun x => !(x == a1)), true) else none) else some (0, 0, [], false)) else some (0, 0, [], false)
theorem impl_MendLink.mono : ∀ a0 a1 a2 a3 k, LeO (impl_MendLink.f k a0 a1 a2 a3) (impl_MendLink.f (k + 1) a0 a1 a2 a3) := by
 intro a0 a1 a2 a3 k
 unfold impl_MendLink.f
 refine LeO.bind (LeO.refl _) (fun _ => ?_)
 refine LeO.ite (LeO.bind (slices_Contains_int_int.mono _ _ _) (fun _ => LeO.refl _)) (LeO.refl _)
set_option maxHeartbeats 4000000 in
set_option maxRecDepth 100000 in
theorem impl_MendLink.calls (k : Nat) (a0_0 : Int) (a0_1 : Int) (A0_2 : Option Addr) (c0_2 : Nat) (l0_2 : List Int) (a1 : Int) (r1 : Int) (r2 : Int) (r3 : List Int) (r4 : Bool) (w : World) (hr0_2 : Kd.C (Kd.int .i64) w A0_2 l0_2.length l0_2) (hc0_2 : l0_2.length ≤ c0_2) (h : impl_MendLink.f k a0_0 a0_1 l0_2 a1 = some (r1, r2, r3, r4)) :
  Calls Try.prog 23 #[.agg #[.int .i64 a0_0, .int .i64 a0_1, .slice A0_2 l0_2.length c0_2], .int .i64 a1] w fun e w' => ∃ v2_ : Value, e = .returned (.tuple #[.agg #[.int .i64 r1, .int .i64 r2, v2_], .bool r4]) ∧ Kd.R (Kd.int .i64) 3 w' w.heap.size (fun _ => True) v2_ r3 ∧ Below w.heap.size w w' := by
 unfold impl_MendLink.f at h
 obtain ⟨t, ht, h2⟩ := Option.bind_eq_some_iff.mp h
 clear h
 have hu := Try.underlying25
 have HL : Aside0 (∀ W, Below w.heap.size w W → Calls Try.prog 54 #[.agg #[.int .i64 a0_0, .int .i64 a0_1, .slice A0_2 l0_2.length c0_2], .int .i64 a1] W fun e w' => e = .returned (.bool t) ∧ Below W.heap.size W w') :=
  ⟨fun W hW => impl_Ring_link.calls a0_0 a0_1 A0_2 c0_2 l0_2 a1 t W (Kd.C_below hr0_2 hW) hc0_2 ht⟩
 have HR := Aside0.mk hr0_2
 have HC := Aside0.mk hc0_2
 clear ht hr0_2 hc0_2
 cases t with
 | false =>
  rw [if_neg (by decide)] at h2
  simp only [Option.some.injEq, Prod.mk.injEq] at h2
  obtain ⟨rfl, rfl, rfl, rfl⟩ := h2
  go_enter Try.func23, Try.ntmps23
  go_wp2_with (first | ((with_reducible refine gate_dst (N := 2) rfl ?_); refine box_event ?hg (N := 2) ?hd (cs := #[.int .i64 a0_0, .int .i64 a0_1, .slice A0_2 l0_2.length c0_2]) (t := 25) ?hr ?_; (case hd => rfl); (case hg => rfl); (case hr => first | (go_simp; done) | (go_simp; rfl)); intro g2 hg2 w2 hx2 hb2; have GE2 := Aside0.mk (Nat.le_of_eq hg2.symm); have HB2 := Aside0.mk hb2; have HX2 := Aside0.mk hx2; clear hb2 hx2 hg2) | ((with_reducible refine gate_dst (N := 3) rfl ?_); refine box_event ?hg (N := 3) ?hd (cs := #[.int .i64 a1]) (t := 3) ?hr ?_; (case hd => rfl); (case hg => rfl); (case hr => first | (go_simp; done) | (go_simp; rfl)); intro g3 hg3 w3 hx3 hb3; have GE3 : Aside0 (w.heap.size ≤ g3) := ⟨by rw [hg3]; exact HB2.out.size⟩; have N32 : Aside0 (g2 < g3) := ⟨by rw [hg3]; exact blk_lt HX2.out⟩; have HB3 := Aside0.mk (below_step HB2.out hb3); have HX23 := Aside0.mk (blk_below HX2.out hb3); have HX3 := Aside0.mk hx3; clear hb3 hx3 hg3 HB2 HX2) | ((with_reducible refine gate_dst (N := 4) rfl ?_); refine box_event ?hg (N := 4) ?hd (cs := #[.int .i64 0, .int .i64 0, .slice none 0 0]) (t := 25) ?hr ?_; (case hd => rfl); (case hg => rfl); (case hr => first | (go_simp; done) | (go_simp; rfl)); intro g4 hg4 w4 hx4 hb4; have GE4 : Aside0 (w.heap.size ≤ g4) := ⟨by rw [hg4]; exact HB3.out.size⟩; have N43 : Aside0 (g3 < g4) := ⟨by rw [hg4]; exact blk_lt HX3.out⟩; have HB4 := Aside0.mk (below_step HB3.out hb4); have HX24 := Aside0.mk (blk_below HX23.out hb4); have HX34 := Aside0.mk (blk_below HX3.out hb4); have HX4 := Aside0.mk hx4; clear hb4 hx4 hg4 HB3 HX23 HX3; have c20 : w4.cell? ⟨g2, 0, none⟩ = some (.int .i64 a0_0) := (blk_cell HX24.out 0).trans rfl; have c21 : w4.cell? ⟨g2, 1, none⟩ = some (.int .i64 a0_1) := (blk_cell HX24.out 1).trans rfl; have c22 : w4.cell? ⟨g2, 2, none⟩ = some (.slice A0_2 l0_2.length c0_2) := (blk_cell HX24.out 2).trans rfl; have c30 : w4.cell? ⟨g3, 0, none⟩ = some (.int .i64 a1) := (blk_cell HX34.out 0).trans rfl) | (go_at_call 54; refine (HL.out _ HB4.out).mono ?_; rintro e w5 ⟨rfl, hb5⟩; have HB5 := Aside0.mk (below_step HB4.out hb5); have HX25 := Aside0.mk (blk_below HX24.out hb5); have HX35 := Aside0.mk (blk_below HX34.out hb5); have HX45 := Aside0.mk (blk_below HX4.out hb5); clear hb5 HB4 HX24 HX34 HX4 c20 c21 c22 c30; have d20 : w5.cell? ⟨g2, 0, none⟩ = some (.int .i64 a0_0) := (blk_cell HX25.out 0).trans rfl; have d21 : w5.cell? ⟨g2, 1, none⟩ = some (.int .i64 a0_1) := (blk_cell HX25.out 1).trans rfl; have d22 : w5.cell? ⟨g2, 2, none⟩ = some (.slice A0_2 l0_2.length c0_2) := (blk_cell HX25.out 2).trans rfl; have d30 : w5.cell? ⟨g3, 0, none⟩ = some (.int .i64 a1) := (blk_cell HX35.out 0).trans rfl; have d40 : w5.cell? ⟨g4, 0, none⟩ = some (.int .i64 0) := (blk_cell HX45.out 0).trans rfl; have d41 : w5.cell? ⟨g4, 1, none⟩ = some (.int .i64 0) := (blk_cell HX45.out 1).trans rfl; have d42 : w5.cell? ⟨g4, 2, none⟩ = some (.slice none 0 0) := (blk_cell HX45.out 2).trans rfl; have df0 := blk_frozen HX45.out 0; have df1 := blk_frozen HX45.out 1; have df2 := blk_frozen HX45.out 2))
  refine bodyPost_ret (results_ct rfl _ _ g4 25 #[.int .i64 0, .int .i64 0, .slice none 0 0] (0, 0) _ rfl (blk_put (cs := #[.int .i64 0, .int .i64 0, .slice none 0 0]) (blk_put (cs := #[.int .i64 0, .int .i64 0, .slice none 0 0]) (blk_put (cs := #[.int .i64 0, .int .i64 0, .slice none 0 0]) HX45.out 0 _ rfl) 1 _ rfl) 2 _ rfl) hu rfl (by kernel_rfl)) rfl ?_
  exact ⟨_, rfl, Kd.R_nil _ _ _ _ _, below_set (below_set (below_set HB5.out GE4.out) GE4.out) GE4.out⟩
 | true =>
  rw [if_pos rfl] at h2
  obtain ⟨u, hu2, h3⟩ := Option.bind_eq_some_iff.mp h2
  clear h2
  have HK : Aside0 (∀ W, Below w.heap.size w W → Calls Try.prog 55 #[.slice A0_2 l0_2.length c0_2, .int .i64 a1] W fun e w' => e = .returned (.bool u) ∧ Below W.heap.size W w') :=
   ⟨fun W hW => (slices_Contains_int_int.calls k A0_2 c0_2 l0_2 a1 u W (Kd.C_below HR.out hW) HC.out hu2).mono (fun _ _ h => ⟨h.1, h.2.below⟩)⟩
  clear hu2
  cases u with
  | false =>
   rw [if_neg (by decide)] at h3
   simp only [Option.some.injEq, Prod.mk.injEq] at h3
   obtain ⟨rfl, rfl, rfl, rfl⟩ := h3
   go_enter Try.func23, Try.ntmps23
   go_wp2_with (first | ((with_reducible refine gate_dst (N := 2) rfl ?_); refine box_event ?hg (N := 2) ?hd (cs := #[.int .i64 a0_0, .int .i64 a0_1, .slice A0_2 l0_2.length c0_2]) (t := 25) ?hr ?_; (case hd => rfl); (case hg => rfl); (case hr => first | (go_simp; done) | (go_simp; rfl)); intro g2 hg2 w2 hx2 hb2; have GE2 := Aside0.mk (Nat.le_of_eq hg2.symm); have HB2 := Aside0.mk hb2; have HX2 := Aside0.mk hx2; clear hb2 hx2 hg2) | ((with_reducible refine gate_dst (N := 3) rfl ?_); refine box_event ?hg (N := 3) ?hd (cs := #[.int .i64 a1]) (t := 3) ?hr ?_; (case hd => rfl); (case hg => rfl); (case hr => first | (go_simp; done) | (go_simp; rfl)); intro g3 hg3 w3 hx3 hb3; have GE3 : Aside0 (w.heap.size ≤ g3) := ⟨by rw [hg3]; exact HB2.out.size⟩; have N32 : Aside0 (g2 < g3) := ⟨by rw [hg3]; exact blk_lt HX2.out⟩; have HB3 := Aside0.mk (below_step HB2.out hb3); have HX23 := Aside0.mk (blk_below HX2.out hb3); have HX3 := Aside0.mk hx3; clear hb3 hx3 hg3 HB2 HX2) | ((with_reducible refine gate_dst (N := 4) rfl ?_); refine box_event ?hg (N := 4) ?hd (cs := #[.int .i64 0, .int .i64 0, .slice none 0 0]) (t := 25) ?hr ?_; (case hd => rfl); (case hg => rfl); (case hr => first | (go_simp; done) | (go_simp; rfl)); intro g4 hg4 w4 hx4 hb4; have GE4 : Aside0 (w.heap.size ≤ g4) := ⟨by rw [hg4]; exact HB3.out.size⟩; have N43 : Aside0 (g3 < g4) := ⟨by rw [hg4]; exact blk_lt HX3.out⟩; have HB4 := Aside0.mk (below_step HB3.out hb4); have HX24 := Aside0.mk (blk_below HX23.out hb4); have HX34 := Aside0.mk (blk_below HX3.out hb4); have HX4 := Aside0.mk hx4; clear hb4 hx4 hg4 HB3 HX23 HX3; have c20 : w4.cell? ⟨g2, 0, none⟩ = some (.int .i64 a0_0) := (blk_cell HX24.out 0).trans rfl; have c21 : w4.cell? ⟨g2, 1, none⟩ = some (.int .i64 a0_1) := (blk_cell HX24.out 1).trans rfl; have c22 : w4.cell? ⟨g2, 2, none⟩ = some (.slice A0_2 l0_2.length c0_2) := (blk_cell HX24.out 2).trans rfl; have c30 : w4.cell? ⟨g3, 0, none⟩ = some (.int .i64 a1) := (blk_cell HX34.out 0).trans rfl) | (go_at_call 54; refine (HL.out _ HB4.out).mono ?_; rintro e w5 ⟨rfl, hb5⟩; have HB5 := Aside0.mk (below_step HB4.out hb5); have HX25 := Aside0.mk (blk_below HX24.out hb5); have HX35 := Aside0.mk (blk_below HX34.out hb5); have HX45 := Aside0.mk (blk_below HX4.out hb5); clear hb5 HB4 HX24 HX34 HX4 c20 c21 c22 c30; have d20 : w5.cell? ⟨g2, 0, none⟩ = some (.int .i64 a0_0) := (blk_cell HX25.out 0).trans rfl; have d21 : w5.cell? ⟨g2, 1, none⟩ = some (.int .i64 a0_1) := (blk_cell HX25.out 1).trans rfl; have d22 : w5.cell? ⟨g2, 2, none⟩ = some (.slice A0_2 l0_2.length c0_2) := (blk_cell HX25.out 2).trans rfl; have d30 : w5.cell? ⟨g3, 0, none⟩ = some (.int .i64 a1) := (blk_cell HX35.out 0).trans rfl; have d40 : w5.cell? ⟨g4, 0, none⟩ = some (.int .i64 0) := (blk_cell HX45.out 0).trans rfl; have d41 : w5.cell? ⟨g4, 1, none⟩ = some (.int .i64 0) := (blk_cell HX45.out 1).trans rfl; have d42 : w5.cell? ⟨g4, 2, none⟩ = some (.slice none 0 0) := (blk_cell HX45.out 2).trans rfl; have df0 := blk_frozen HX45.out 0; have df1 := blk_frozen HX45.out 1; have df2 := blk_frozen HX45.out 2) | (go_at_call 55; refine (HK.out _ HB5.out).mono ?_; rintro e w6 ⟨rfl, hb6⟩; have HB6 := Aside0.mk (below_step HB5.out hb6); have HX26 := Aside0.mk (blk_below HX25.out hb6); have HX36 := Aside0.mk (blk_below HX35.out hb6); have HX46 := Aside0.mk (blk_below HX45.out hb6); clear hb6 HB5 HX25 HX35 HX45 d20 d21 d22 d30 d40 d41 d42 df0 df1 df2; have e20 : w6.cell? ⟨g2, 0, none⟩ = some (.int .i64 a0_0) := (blk_cell HX26.out 0).trans rfl; have e21 : w6.cell? ⟨g2, 1, none⟩ = some (.int .i64 a0_1) := (blk_cell HX26.out 1).trans rfl; have e22 : w6.cell? ⟨g2, 2, none⟩ = some (.slice A0_2 l0_2.length c0_2) := (blk_cell HX26.out 2).trans rfl; have e30 : w6.cell? ⟨g3, 0, none⟩ = some (.int .i64 a1) := (blk_cell HX36.out 0).trans rfl; have e40 : w6.cell? ⟨g4, 0, none⟩ = some (.int .i64 0) := (blk_cell HX46.out 0).trans rfl; have e41 : w6.cell? ⟨g4, 1, none⟩ = some (.int .i64 0) := (blk_cell HX46.out 1).trans rfl; have e42 : w6.cell? ⟨g4, 2, none⟩ = some (.slice none 0 0) := (blk_cell HX46.out 2).trans rfl; have ef0 := blk_frozen HX46.out 0; have ef1 := blk_frozen HX46.out 1; have ef2 := blk_frozen HX46.out 2))
   refine bodyPost_ret (results_ct rfl _ _ g4 25 #[.int .i64 0, .int .i64 0, .slice none 0 0] (0, 0) _ rfl (blk_put (cs := #[.int .i64 0, .int .i64 0, .slice none 0 0]) (blk_put (cs := #[.int .i64 0, .int .i64 0, .slice none 0 0]) (blk_put (cs := #[.int .i64 0, .int .i64 0, .slice none 0 0]) HX46.out 0 _ rfl) 1 _ rfl) 2 _ rfl) hu rfl (by kernel_rfl)) rfl ?_
   exact ⟨_, rfl, Kd.R_nil _ _ _ _ _, below_set (below_set (below_set HB6.out GE4.out) GE4.out) GE4.out⟩
  | true =>
   rw [if_pos rfl] at h3
   by_cases hc : (l0_2.any fun x => x == a1) = true ∧ l0_2.length ≤ 1000
   ·rw [if_pos hc] at h3
    simp only [Option.some.injEq, Prod.mk.injEq] at h3
    obtain ⟨rfl, rfl, rfl, rfl⟩ := h3
    have HY := Aside0.mk hc
    have HP : Aside0 (0 < l0_2.length) := ⟨by cases l0_2 with
     | nil => exact absurd hc.1 (by simp)
     | cons x t => simp⟩
    have hmf : ∀ (fn : Fn) (first cap : Array Value) (w : World), (Instr.makeFunc fn first cap).run Try.prog w = .ok (.func fn first cap) w := fun _ _ _ _ => rfl
    have HCl : Aside0 (∀ W, Below w.heap.size w W → Calls Try.prog 57 #[.slice A0_2 l0_2.length c0_2] W fun e w' => ∃ v0_ : Value, e = .returned (v0_) ∧ Kd.R (Kd.int .i64) 3 w' W.heap.size (fun _ => True) v0_ l0_2 ∧ Below W.heap.size W w') :=
     ⟨fun W hW => slices_Clone_int_int.calls A0_2 c0_2 l0_2 l0_2 W (Kd.C_below HR.out hW) HC.out (by unfold slices_Clone_int_int.f; rw [if_pos (by have := HY.out.2; omega)])⟩
    clear hc
    go_enter Try.func23, Try.ntmps23
    go_wp2_with (first | ((with_reducible refine gate_dst (N := 2) rfl ?_); refine box_event ?hg (N := 2) ?hd (cs := #[.int .i64 a0_0, .int .i64 a0_1, .slice A0_2 l0_2.length c0_2]) (t := 25) ?hr ?_; (case hd => rfl); (case hg => rfl); (case hr => first | (go_simp; done) | (go_simp; rfl)); intro g2 hg2 w2 hx2 hb2; have GE2 := Aside0.mk (Nat.le_of_eq hg2.symm); have HB2 := Aside0.mk hb2; have HX2 := Aside0.mk hx2; clear hb2 hx2 hg2) | ((with_reducible refine gate_dst (N := 3) rfl ?_); refine box_event ?hg (N := 3) ?hd (cs := #[.int .i64 a1]) (t := 3) ?hr ?_; (case hd => rfl); (case hg => rfl); (case hr => first | (go_simp; done) | (go_simp; rfl)); intro g3 hg3 w3 hx3 hb3; have GE3 : Aside0 (w.heap.size ≤ g3) := ⟨by rw [hg3]; exact HB2.out.size⟩; have N32 : Aside0 (g2 < g3) := ⟨by rw [hg3]; exact blk_lt HX2.out⟩; have HB3 := Aside0.mk (below_step HB2.out hb3); have HX23 := Aside0.mk (blk_below HX2.out hb3); have HX3 := Aside0.mk hx3; clear hb3 hx3 hg3 HB2 HX2) | ((with_reducible refine gate_dst (N := 4) rfl ?_); refine box_event ?hg (N := 4) ?hd (cs := #[.int .i64 0, .int .i64 0, .slice none 0 0]) (t := 25) ?hr ?_; (case hd => rfl); (case hg => rfl); (case hr => first | (go_simp; done) | (go_simp; rfl)); intro g4 hg4 w4 hx4 hb4; have GE4 : Aside0 (w.heap.size ≤ g4) := ⟨by rw [hg4]; exact HB3.out.size⟩; have N43 : Aside0 (g3 < g4) := ⟨by rw [hg4]; exact blk_lt HX3.out⟩; have HB4 := Aside0.mk (below_step HB3.out hb4); have HX24 := Aside0.mk (blk_below HX23.out hb4); have HX34 := Aside0.mk (blk_below HX3.out hb4); have HX4 := Aside0.mk hx4; clear hb4 hx4 hg4 HB3 HX23 HX3; have c20 : w4.cell? ⟨g2, 0, none⟩ = some (.int .i64 a0_0) := (blk_cell HX24.out 0).trans rfl; have c21 : w4.cell? ⟨g2, 1, none⟩ = some (.int .i64 a0_1) := (blk_cell HX24.out 1).trans rfl; have c22 : w4.cell? ⟨g2, 2, none⟩ = some (.slice A0_2 l0_2.length c0_2) := (blk_cell HX24.out 2).trans rfl; have c30 : w4.cell? ⟨g3, 0, none⟩ = some (.int .i64 a1) := (blk_cell HX34.out 0).trans rfl) | (go_at_call 54; refine (HL.out _ HB4.out).mono ?_; rintro e w5 ⟨rfl, hb5⟩; have HB5 := Aside0.mk (below_step HB4.out hb5); have HX25 := Aside0.mk (blk_below HX24.out hb5); have HX35 := Aside0.mk (blk_below HX34.out hb5); have HX45 := Aside0.mk (blk_below HX4.out hb5); clear hb5 HB4 HX24 HX34 HX4 c20 c21 c22 c30; have d20 : w5.cell? ⟨g2, 0, none⟩ = some (.int .i64 a0_0) := (blk_cell HX25.out 0).trans rfl; have d21 : w5.cell? ⟨g2, 1, none⟩ = some (.int .i64 a0_1) := (blk_cell HX25.out 1).trans rfl; have d22 : w5.cell? ⟨g2, 2, none⟩ = some (.slice A0_2 l0_2.length c0_2) := (blk_cell HX25.out 2).trans rfl; have d30 : w5.cell? ⟨g3, 0, none⟩ = some (.int .i64 a1) := (blk_cell HX35.out 0).trans rfl; have d40 : w5.cell? ⟨g4, 0, none⟩ = some (.int .i64 0) := (blk_cell HX45.out 0).trans rfl; have d41 : w5.cell? ⟨g4, 1, none⟩ = some (.int .i64 0) := (blk_cell HX45.out 1).trans rfl; have d42 : w5.cell? ⟨g4, 2, none⟩ = some (.slice none 0 0) := (blk_cell HX45.out 2).trans rfl; have df0 := blk_frozen HX45.out 0; have df1 := blk_frozen HX45.out 1; have df2 := blk_frozen HX45.out 2) | (go_at_call 55; refine (HK.out _ HB5.out).mono ?_; rintro e w6 ⟨rfl, hb6⟩; have HB6 := Aside0.mk (below_step HB5.out hb6); have HX26 := Aside0.mk (blk_below HX25.out hb6); have HX36 := Aside0.mk (blk_below HX35.out hb6); have HX46 := Aside0.mk (blk_below HX45.out hb6); clear hb6 HB5 HX25 HX35 HX45 d20 d21 d22 d30 d40 d41 d42 df0 df1 df2; have e20 : w6.cell? ⟨g2, 0, none⟩ = some (.int .i64 a0_0) := (blk_cell HX26.out 0).trans rfl; have e21 : w6.cell? ⟨g2, 1, none⟩ = some (.int .i64 a0_1) := (blk_cell HX26.out 1).trans rfl; have e22 : w6.cell? ⟨g2, 2, none⟩ = some (.slice A0_2 l0_2.length c0_2) := (blk_cell HX26.out 2).trans rfl; have e30 : w6.cell? ⟨g3, 0, none⟩ = some (.int .i64 a1) := (blk_cell HX36.out 0).trans rfl; have e40 : w6.cell? ⟨g4, 0, none⟩ = some (.int .i64 0) := (blk_cell HX46.out 0).trans rfl; have e41 : w6.cell? ⟨g4, 1, none⟩ = some (.int .i64 0) := (blk_cell HX46.out 1).trans rfl; have e42 : w6.cell? ⟨g4, 2, none⟩ = some (.slice none 0 0) := (blk_cell HX46.out 2).trans rfl; have ef0 := blk_frozen HX46.out 0; have ef1 := blk_frozen HX46.out 1; have ef2 := blk_frozen HX46.out 2) | (go_at_call 57; refine (HCl.out _ HB6.out).mono ?_; rintro e w7 ⟨v7, rfl, hR7, hb7⟩; obtain ⟨gc, cc, ev7, hgc, _⟩ := Kd.R_form hR7 HP.out; subst ev7; have hdel := x_DeleteFunc_int (fun x => x == a1) 58 #[.pointer (some ⟨g3, 0, none⟩)] (enters_of Try.func58 (by kernel_rfl) rfl) w6 w7 gc cc l0_2 HY.out.2 HY.out.1 (x_Mend_1 (blk_lt HX36.out) e30) hb7 hgc hR7; clear hR7 hb7 hgc e20 e21 e22 e30 e40 e41 e42 ef0 ef1 ef2) | (go_at_call 56; refine hdel.mono ?_; rintro e w8 ⟨v8, rfl, hR8, hb8⟩; obtain ⟨A8, c8, ev8⟩ := Kd.R_slice hR8; subst ev8; have HB8 := Aside0.mk (below_step HB6.out hb8); have HX28 := Aside0.mk (blk_below HX26.out hb8); have HX48 := Aside0.mk (blk_below HX46.out hb8); have HO8 := Aside0.mk hR8; have HS6 := Aside0.mk HB6.out.size; clear hdel hR8 hb8 HB6 HX26 HX36 HX46; have f20 : w8.cell? ⟨g2, 0, none⟩ = some (.int .i64 a0_0) := (blk_cell HX28.out 0).trans rfl; have f21 : w8.cell? ⟨g2, 1, none⟩ = some (.int .i64 a0_1) := (blk_cell HX28.out 1).trans rfl; have f22 : w8.cell? ⟨g2, 2, none⟩ = some (.slice A0_2 l0_2.length c0_2) := (blk_cell HX28.out 2).trans rfl; have f40 : w8.cell? ⟨g4, 0, none⟩ = some (.int .i64 0) := (blk_cell HX48.out 0).trans rfl; have f41 : w8.cell? ⟨g4, 1, none⟩ = some (.int .i64 0) := (blk_cell HX48.out 1).trans rfl; have f42 : w8.cell? ⟨g4, 2, none⟩ = some (.slice none 0 0) := (blk_cell HX48.out 2).trans rfl; have ff0 := blk_frozen HX48.out 0; have fg0 := blk_frozen HX28.out 0; have ff1 := blk_frozen HX48.out 1; have fg1 := blk_frozen HX28.out 1; have ff2 := blk_frozen HX48.out 2; have fg2 := blk_frozen HX28.out 2; have n42 : (g4 = g2) = False := eq_false (by have := N32.out; have := N43.out; omega); have n24 : (g2 = g4) = False := eq_false (by have := N32.out; have := N43.out; omega)))
    have HX4s := Aside0.mk ((Below.heap_setCell w8 ⟨g2, 2, none⟩ (.slice A8 (List.filter (fun x => !(x == a1)) l0_2).length c8) g4 (show g4 ≠ g2 by have := N32.out; have := N43.out; omega)).trans HX48.out)
    refine bodyPost_ret (results_ct rfl _ _ g4 25 #[.int .i64 a0_0, .int .i64 a0_1, .slice A8 (List.filter (fun x => !(x == a1)) l0_2).length c8] (0, 0) _ rfl (blk_put (cs := #[.int .i64 a0_0, .int .i64 a0_1, .slice none 0 0]) (blk_put (cs := #[.int .i64 a0_0, .int .i64 0, .slice none 0 0]) (blk_put (cs := #[.int .i64 0, .int .i64 0, .slice none 0 0]) HX4s.out 0 _ rfl) 1 _ rfl) 2 _ rfl) hu rfl (by kernel_rfl)) rfl ?_
    exact ⟨_, rfl, Kd.R_mono (Kd.R_far (p := ⟨g4, 2, none⟩) (Kd.R_far (p := ⟨g4, 1, none⟩) (Kd.R_far (p := ⟨g4, 0, none⟩) (Kd.R_types (Kd.R_far (p := ⟨g2, 2, none⟩) (Kd.R_types (Kd.R_lower HO8.out HS6.out) HX28.out (by decide)) (fun _ hk => hk.2) _) HX4s.out (by decide)) (fun _ hk => hk.2) _) (fun _ hk => hk.2) _) (fun _ hk => hk.2) _) (fun _ _ => trivial), below_set (below_set (below_set (below_set HB8.out GE2.out) GE4.out) GE4.out) GE4.out⟩
   ·rw [if_neg hc] at h3
    cases h3

/-! ### laws_heldRing: function 26 -/
def laws_heldRing.f (k : Nat) (a0_0 : Int) (a0_1 : Int) (l0_2 : List Int) (a1 : Int) : Option (Int) := (laws_heldIntS.f k l0_2 a1).bind fun t256 => (if t256 < 0 then (some (-1)) else (some t256))
theorem laws_heldRing.mono : ∀ a0 a1 a2 a3 k, LeO (laws_heldRing.f k a0 a1 a2 a3) (laws_heldRing.f (k + 1) a0 a1 a2 a3) := by
 intro a0 a1 a2 a3 k
 unfold laws_heldRing.f
 repeat' first
   | (with_reducible exact laws_heldIntS.mono _ _ _)
   | (with_reducible exact LeO.refl _)
   | (with_reducible exact LeO.none _)
   | (with_reducible refine LeO.ite ?_ ?_)
   | (with_reducible refine LeO.bind ?_ (fun _ => ?_))
   | exact laws_heldIntS.mono _ _ _
   | exact LeO.none _
   | refine LeO.ite ?_ ?_
   | refine LeO.bind ?_ (fun _ => ?_)
set_option maxHeartbeats 8000000 in
set_option maxRecDepth 100000 in
theorem laws_heldRing.calls (k : Nat) (a0_0 : Int) (a0_1 : Int) (A0_2 : Option Addr) (c0_2 : Nat) (l0_2 : List Int) (a1 : Int) (r : Int) (w : World) (hr0_2 : Kd.C (Kd.int .i64) w A0_2 l0_2.length l0_2) (hc0_2 : l0_2.length ≤ c0_2) (h : laws_heldRing.f k a0_0 a0_1 l0_2 a1 = some r) :
  Calls Try.prog 26 #[.agg #[.int .i64 a0_0, .int .i64 a0_1, .slice A0_2 l0_2.length c0_2], .int .i64 a1] w fun e w' => e = .returned (.int .i64 r) ∧ Below w.heap.size w w' := by
 have hu25 := Try.underlying25
 have HR0_2 := Aside0.mk hr0_2
 have HC0_2 := Aside0.mk hc0_2
 clear hr0_2 hc0_2
 have HB := Aside0.mk (Below.refl w.heap.size w)
 have H : ((laws_heldIntS.f k l0_2 a1).bind fun t256 => (if t256 < 0 then (some (-1)) else (some t256))) = some r := h
 clear h
 replace H := Option.bind_eq_some_iff.mp H
 obtain ⟨t256, A30, H⟩ := H
 replace H : (if t256 < 0 then (some (-1)) else (some t256)) = some r := H
 have A3 := Aside0.mk A30
 clear A30
 by_cases c4 : t256 < 0
 ·rw [if_pos c4] at H
  have c4b0 : decide (t256 < 0) = true := decide_eq_true c4
  clear c4
  obtain rfl := Option.some.inj H
  go_enter Try.func26, Try.ntmps26
  go_wp2_with (first | ((with_reducible refine gate_dst (N := 2) rfl ?_); refine box_event ?hg (N := 2) ?hd (cs := #[.int .i64 a0_0, .int .i64 a0_1, .slice A0_2 l0_2.length c0_2]) (t := 25) ?hr ?_; (case hd => rfl); (case hg => rfl); (case hr => first | (go_simp; done) | (go_simp; rfl)); intro gb255 hg w5 hbox hb; have n0_ := Aside0.mk (below_step (by repeat (first | (with_reducible first | exact HB.out | apply below_alloc | apply pw_below_drewN | apply below_drew1) | exact HB.out)) hb); have n1_ := Aside0.mk (hbox); have n2_ := Aside0.mk ((by rw [hg]; exact (below_size (by repeat (first | (with_reducible first | exact HB.out | apply below_alloc | apply pw_below_drewN | apply below_drew1) | exact HB.out))) : w.heap.size ≤ gb255)); have n3_ := Aside0.mk ((by rw [hg]; exact (below_size (by repeat (first | (with_reducible first | exact HB.out | apply below_alloc | apply pw_below_drewN | apply below_drew1) | exact HB.out))) : w.heap.size ≤ gb255)); clear HB; have HB := n0_; have BK255 := n1_; have GW255 := n2_; have GE255 := n3_; clear n0_ n1_ n2_ n3_; clear hb hbox hg; have hcz6_0 : w5.cell? ⟨gb255, 0, none⟩ = some (.int .i64 a0_0) := (blk_cell BK255.out 0).trans rfl; have hcz6_1 : w5.cell? ⟨gb255, 1, none⟩ = some (.int .i64 a0_1) := (blk_cell BK255.out 1).trans rfl; have hcz6_2 : w5.cell? ⟨gb255, 2, none⟩ = some (.slice A0_2 l0_2.length c0_2) := (blk_cell BK255.out 2).trans rfl; have hfz6_0 := blk_frozen BK255.out 0; have hfz6_1 := blk_frozen BK255.out 1; have hfz6_2 := blk_frozen BK255.out 2) | ((with_reducible refine gate_callee (f := 32) rfl ?_); refine goesL_ (some 8) rfl rfl Try.func32 (by kernel_rfl) rfl #[.slice A0_2 l0_2.length c0_2, .int .i64 a1] rfl (by (try simp only [List.map_toArray, List.map_cons, List.map_nil]); first | done | rfl | (simp only [List.length_drop, List.length_take]; rfl)) ?_; (with_reducible refine (laws_heldIntS.calls k _ _ l0_2 a1 t256 _ ?side1 ?side2 A3.out).mono ?_); (case side1 => repeat (first | exact (Kd.C_below HR0_2.out HB.out) | (with_reducible refine Kd.C_alloc ?_ _) | (with_reducible refine Kd.C_drewN ?_ _) | (with_reducible refine Kd.C_drew ?_))); (case side2 => exact HC0_2.out); rintro e w' ⟨rfl, ⟨nd, rfl⟩⟩; refine ⟨_, rfl, ?_⟩))
  go_ret
  exact ⟨by first | rfl | (simp [errW_none, errW_some] <;> rfl) | (simp [*, errW_none, errW_some] <;> rfl), by repeat (first | (with_reducible first | exact HB.out | apply below_alloc | apply pw_below_drewN | apply below_drew1 | refine below_set ?_ GE255.out) | exact HB.out)⟩
 ·rw [if_neg c4] at H
  have c4b0 : decide (t256 < 0) = false := decide_eq_false c4
  clear c4
  obtain rfl := Option.some.inj H
  go_enter Try.func26, Try.ntmps26
  go_wp2_with (first | ((with_reducible refine gate_dst (N := 2) rfl ?_); refine box_event ?hg (N := 2) ?hd (cs := #[.int .i64 a0_0, .int .i64 a0_1, .slice A0_2 l0_2.length c0_2]) (t := 25) ?hr ?_; (case hd => rfl); (case hg => rfl); (case hr => first | (go_simp; done) | (go_simp; rfl)); intro gb255 hg w7 hbox hb; have n0_ := Aside0.mk (below_step (by repeat (first | (with_reducible first | exact HB.out | apply below_alloc | apply pw_below_drewN | apply below_drew1) | exact HB.out)) hb); have n1_ := Aside0.mk (hbox); have n2_ := Aside0.mk ((by rw [hg]; exact (below_size (by repeat (first | (with_reducible first | exact HB.out | apply below_alloc | apply pw_below_drewN | apply below_drew1) | exact HB.out))) : w.heap.size ≤ gb255)); have n3_ := Aside0.mk ((by rw [hg]; exact (below_size (by repeat (first | (with_reducible first | exact HB.out | apply below_alloc | apply pw_below_drewN | apply below_drew1) | exact HB.out))) : w.heap.size ≤ gb255)); clear HB; have HB := n0_; have BK255 := n1_; have GW255 := n2_; have GE255 := n3_; clear n0_ n1_ n2_ n3_; clear hb hbox hg; have hcz8_0 : w7.cell? ⟨gb255, 0, none⟩ = some (.int .i64 a0_0) := (blk_cell BK255.out 0).trans rfl; have hcz8_1 : w7.cell? ⟨gb255, 1, none⟩ = some (.int .i64 a0_1) := (blk_cell BK255.out 1).trans rfl; have hcz8_2 : w7.cell? ⟨gb255, 2, none⟩ = some (.slice A0_2 l0_2.length c0_2) := (blk_cell BK255.out 2).trans rfl; have hfz8_0 := blk_frozen BK255.out 0; have hfz8_1 := blk_frozen BK255.out 1; have hfz8_2 := blk_frozen BK255.out 2) | ((with_reducible refine gate_callee (f := 32) rfl ?_); refine goesL_ (some 8) rfl rfl Try.func32 (by kernel_rfl) rfl #[.slice A0_2 l0_2.length c0_2, .int .i64 a1] rfl (by (try simp only [List.map_toArray, List.map_cons, List.map_nil]); first | done | rfl | (simp only [List.length_drop, List.length_take]; rfl)) ?_; (with_reducible refine (laws_heldIntS.calls k _ _ l0_2 a1 t256 _ ?side1 ?side2 A3.out).mono ?_); (case side1 => repeat (first | exact (Kd.C_below HR0_2.out HB.out) | (with_reducible refine Kd.C_alloc ?_ _) | (with_reducible refine Kd.C_drewN ?_ _) | (with_reducible refine Kd.C_drew ?_))); (case side2 => exact HC0_2.out); rintro e w' ⟨rfl, ⟨nd, rfl⟩⟩; refine ⟨_, rfl, ?_⟩))
  go_ret
  exact ⟨by first | rfl | (simp [errW_none, errW_some] <;> rfl) | (simp [*, errW_none, errW_some] <;> rfl), by repeat (first | (with_reducible first | exact HB.out | apply below_alloc | apply pw_below_drewN | apply below_drew1 | refine below_set ?_ GE255.out) | exact HB.out)⟩

-- LIB p17mend
/-- The ring with a link that is whole again. -/
def mendX (n h : Int) (c : List Int) (a : Int) : Int × Int × List Int × Bool := if (ringB n h c && hasL c a) = true then (n, h, c.filter (fun x => !(x == a)), true) else (0, 0, [], false)
theorem ilink_eq (n h : Int) (c : List Int) (a : Int) : impl_Ring_link.f n h c a = some (ringB n h c && inB n a) := by
  unfold impl_Ring_link.f impl_Ring_station.f
  rw [iring_eq, Option.bind_some]
  cases ringB n h c with
  | false => rw [if_neg (by decide), Option.bind_some]; rfl
  | true => rw [if_pos rfl, win_is, Option.bind_some, Option.bind_some]; rfl
theorem hasL_any (c : List Int) (a : Int) : (c.any fun x => x == a) = hasL c a := rfl
theorem hasL_in {n h : Int} {c : List Int} {a : Int} (hv : ringB n h c = true) (hc : hasL c a = true) : inB n a = true := by
  have V := ringV_of hv
  rw [inB_iff V]
  exact V.cut a ((hasL_iff c a).1 hc)
theorem imend_eq (n h : Int) (c : List Int) (a : Int) (hc : c.length ≤ 9223372036854775807) (k : Nat) (hk : c.length < k) : impl_MendLink.f k n h c a = some (mendX n h c a) := by
  unfold impl_MendLink.f mendX
  rw [ilink_eq, Option.bind_some]
  cases hv : ringB n h c with
  | false => rw [if_neg (by simp), if_neg (by simp)]
  | true =>
    have V := ringV_of hv
    have hl := V.len
    cases hh : hasL c a with
    | false =>
      rw [if_neg (show ¬ (true && false) = true by decide)]
      split
      · rw [contains_eq c a (by omega) k hk, Option.bind_some, hh, if_neg (by decide)]
      · rfl
    | true => rw [hasL_in hv hh, if_pos (by decide), contains_eq c a (by omega) k hk, Option.bind_some, hh, if_pos rfl, if_pos (show (c.any fun x => x == a) = true ∧ c.length ≤ 1000 from ⟨by rw [hasL_any]; exact hh, by omega⟩), if_pos (by decide)]
theorem smend_at (n h : Int) (c : List Int) (a : Int) (hc : c.length ≤ 1048576) (d : Nat) : ∀ (k i : Nat) (acc : List Int), i + d = c.length → acc.length + d ≤ 1048576 → d < k → spec_MendLink.l0 k a (i : Int) n h c n h acc = some (n, h, acc ++ (c.drop i).filter (fun x => !(x == a)), true) := by
  induction d with
  | zero =>
    intro k i acc h1 h2 hk
    obtain ⟨k, rfl⟩ : ∃ m, k = m + 1 := ⟨k - 1, by omega⟩
    simp only [spec_MendLink.l0]
    rw [if_neg (by omega), List.drop_of_length_le (by omega), List.filter_nil, List.append_nil]
  | succ d ih =>
    intro k i acc h1 h2 hk
    obtain ⟨k, rfl⟩ : ∃ m, k = m + 1 := ⟨k - 1, by omega⟩
    have hi : i < c.length := by omega
    simp only [spec_MendLink.l0]
    rw [if_pos (by omega), if_pos (by omega), wrap_succ hi (by omega), rd_get c i hi, List.drop_eq_getElem_cons hi]
    by_cases e : c[i] = a
    · rw [if_pos e, ih k (i + 1) acc (by omega) (by omega) (by omega), List.filter_cons_of_neg (by simp [e])]
    · rw [if_neg e, if_pos (by omega), ih k (i + 1) _ (by omega) (by simp; omega) (by omega), List.filter_cons_of_pos (by simp [e]), List.append_assoc]
      rfl
theorem smend_eq (n h : Int) (c : List Int) (a : Int) (hc : c.length ≤ 1048576) (k : Nat) (hk : c.length + 10 < k) : spec_MendLink.f k n h c a = some (mendX n h c a) := by
  obtain ⟨k, rfl⟩ : ∃ m, k = m + 1 := ⟨k - 1, by omega⟩
  unfold spec_MendLink.f mendX
  rw [sring_eq n h c (by omega) _ (by omega), Option.bind_some]
  cases hv : ringB n h c with
  | false => rw [if_neg (by decide), if_neg (by simp)]; simp only [spec_MendLink.j0]; rw [if_pos trivial]
  | true =>
    rw [if_pos rfl, l10_eq c a (by omega) _ (by omega), Option.bind_some]
    simp only [spec_MendLink.j0]
    cases hh : hasL c a with
    | false => rw [if_pos (by decide), if_neg (by decide)]
    | true =>
      rw [if_neg (by decide), if_pos (by decide)]
      have := smend_at n h c a hc c.length k 0 [] (by omega) (by simp; omega) (by omega)
      exact this
theorem heldRing_eq (n h : Int) (m : Nat) (hl : m ≤ 1048576) (k : Nat) (hk : m < k) : laws_heldRing.f k n h (mkI 1 m) 1 = some (1 + (m : Int)) := by
  unfold laws_heldRing.f
  rw [heldInt_eq m 1 (by omega) (by omega) (by omega) k hk, Option.bind_some, if_neg (by omega)]
theorem mendX_len (n h : Int) (c : List Int) (a : Int) : (mendX n h c a).2.2.1.length ≤ c.length := by
  unfold mendX
  split
  · exact List.length_filter_le _ _
  · simp

end Go.Proofs.Ytdnehickciaiiaa.PAll

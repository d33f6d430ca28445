/- Proved here: contracts of functions of the given program, or lemmas on them, for the laws of this seat. Written by xprint.py, a program of this session, on the ground of the kit's print; parts by hand: wip/x/ext. -/
import Derived.Test.YtdnehickciaiiaaPAllx0
import Derived.Test.YtdnehickciaiiaaPAllx1
import Derived.Test.YtdnehickciaiiaaPAllx2
import Derived.Test.YtdnehickciaiiaaPAllx3
import Derived.Test.YtdnehickciaiiaaPAllx5
import Derived.Test.YtdnehickciaiiaaPAllx12
namespace Go.Proofs.Ytdnehickciaiiaa.PAll
open Go.RowKit Go.Proofs.YtdnehickciaiiaaW.PrintWords Go.Proofs.YtdnehickciaiiaaW.PrintLast Go.Proofs.YtdnehickciaiiaaW.PrintMore
attribute [local go_sem] max2_int min2_int max_two min_two max_three min_three max_four min_four   -- for this text's walks alone
set_option linter.unusedVariables false
set_option linter.unusedSimpArgs false

/-! ### spec_DrawMendLink: function 36 -/
def spec_DrawMendLink.f (k : Nat) (l0 : List Int) : Option (Int × Int × List Int × Int) := (spec_l21Open.f l0).bind fun bt578 => ((spec_l17Two.f k bt578.1 bt578.2).bind fun bt581 => (if (bt581.2.2.1.length : Int) > 0 then ((spec_l21Rd_pick.f k bt578.1 bt581.2.2.2.2.2 4).bind fun bt590 => (if bt590.1 > 0 then ((spec_l21Rd_pick.f k bt578.1 bt590.2 (bt581.2.2.1.length : Int)).bind fun bt592 => (if 0 ≤ bt592.1 then (if bt592.1 < (bt581.2.2.1.length : Int) then (some (bt581.1, bt581.2.1, bt581.2.2.1, rd bt581.2.2.1 bt592.1)) else (none)) else (none))) else (some (bt581.1, bt581.2.1, bt581.2.2.1, bt581.2.2.2.1)))) else (some (bt581.1, bt581.2.1, bt581.2.2.1, bt581.2.2.2.1))))
theorem spec_DrawMendLink.mono : ∀ a0 k, LeO (spec_DrawMendLink.f k a0) (spec_DrawMendLink.f (k + 1) a0) := by
 intro a0 k
 unfold spec_DrawMendLink.f
 repeat' first
   | (with_reducible exact spec_l17Two.mono _ _ _)
   | (with_reducible exact spec_l21Rd_pick.mono _ _ _ _)
   | (with_reducible exact LeO.refl _)
   | (with_reducible exact LeO.none _)
   | (with_reducible refine LeO.ite ?_ ?_)
   | (with_reducible refine LeO.bind ?_ (fun _ => ?_))
   | exact spec_l17Two.mono _ _ _
   | exact spec_l21Rd_pick.mono _ _ _ _
   | exact LeO.none _
   | refine LeO.ite ?_ ?_
   | refine LeO.bind ?_ (fun _ => ?_)
def spec_DrawMendLink.T4 : Bool × List (List Nat × List Nat) := (true, [([], []), ([], []), ([1], [1]), ([], []), ([], []), ([4], [4]), ([5], [5]), ([3, 6], [3, 6]), ([2, 7], [2, 7]), ([8], [8]), ([0, 7, 0], [0]), ([9, 10, 0, 1, 2, 3, 4, 5, 6, 7, 8, 9, 10], [9])])
def spec_DrawMendLink.B4 : List Nat := [0, 0, 2, 0, 0, 16, 48, 120, 254, 510, 249, 2047]
theorem spec_DrawMendLink.tab4 : rtab .any (opsOf Try.f36 4) = spec_DrawMendLink.T4 := by kernel_rfl
theorem spec_DrawMendLink.bits4 : waitsOk spec_DrawMendLink.T4.2 spec_DrawMendLink.B4 = true := by kernel_rfl
set_option maxHeartbeats 8000000 in
set_option maxRecDepth 100000 in
theorem spec_DrawMendLink.calls (k : Nat) (A0 : Option Addr) (c0 : Nat) (l0 : List Int) (r1 : Int) (r2 : Int) (r3 : List Int) (r4 : Int) (w : World) (hr0 : Kd.C (Kd.int .u8) w A0 l0.length l0) (hc0 : l0.length ≤ c0) (h : spec_DrawMendLink.f k l0 = some (r1, r2, r3, r4)) :
  Calls Try.prog 36 #[.slice A0 l0.length c0] w fun e w' => ∃ v2_ : Value, e = .returned (.tuple #[.agg #[.int .i64 r1, .int .i64 r2, v2_], .int .i64 r4]) ∧ Kd.R (Kd.int .i64) 3 w' w.heap.size (fun _ => True) v2_ r3 ∧ Below w.heap.size w w' := by
 have hu25 := Try.underlying25
 have HR0 := Aside0.mk hr0
 have HC0 := Aside0.mk hc0
 clear hr0 hc0
 have HB := Aside0.mk (Below.refl w.heap.size w)
 have H : ((spec_l21Open.f l0).bind fun bt578 => ((spec_l17Two.f k bt578.1 bt578.2).bind fun bt581 => (if (bt581.2.2.1.length : Int) > 0 then ((spec_l21Rd_pick.f k bt578.1 bt581.2.2.2.2.2 4).bind fun bt590 => (if bt590.1 > 0 then ((spec_l21Rd_pick.f k bt578.1 bt590.2 (bt581.2.2.1.length : Int)).bind fun bt592 => (if 0 ≤ bt592.1 then (if bt592.1 < (bt581.2.2.1.length : Int) then (some (bt581.1, bt581.2.1, bt581.2.2.1, rd bt581.2.2.1 bt592.1)) else (none)) else (none))) else (some (bt581.1, bt581.2.1, bt581.2.2.1, bt581.2.2.2.1)))) else (some (bt581.1, bt581.2.1, bt581.2.2.1, bt581.2.2.2.1))))) = some (r1, r2, r3, r4) := h
 clear h
 replace H := Option.bind_eq_some_iff.mp H
 obtain ⟨⟨t578, t579⟩, A20, H⟩ := H
 replace H : ((spec_l17Two.f k t578 t579).bind fun bt581 => (if (bt581.2.2.1.length : Int) > 0 then ((spec_l21Rd_pick.f k t578 bt581.2.2.2.2.2 4).bind fun bt590 => (if bt590.1 > 0 then ((spec_l21Rd_pick.f k t578 bt590.2 (bt581.2.2.1.length : Int)).bind fun bt592 => (if 0 ≤ bt592.1 then (if bt592.1 < (bt581.2.2.1.length : Int) then (some (bt581.1, bt581.2.1, bt581.2.2.1, rd bt581.2.2.1 bt592.1)) else (none)) else (none))) else (some (bt581.1, bt581.2.1, bt581.2.2.1, bt581.2.2.2.1)))) else (some (bt581.1, bt581.2.1, bt581.2.2.1, bt581.2.2.2.1)))) = some (r1, r2, r3, r4) := H
 have A2 := Aside0.mk A20
 clear A20
 replace H := Option.bind_eq_some_iff.mp H
 obtain ⟨⟨t581, t582, t583, t586, t587, t588⟩, A30, H⟩ := H
 replace H : (if (t583.length : Int) > 0 then ((spec_l21Rd_pick.f k t578 t588 4).bind fun bt590 => (if bt590.1 > 0 then ((spec_l21Rd_pick.f k t578 bt590.2 (t583.length : Int)).bind fun bt592 => (if 0 ≤ bt592.1 then (if bt592.1 < (t583.length : Int) then (some (t581, t582, t583, rd t583 bt592.1)) else (none)) else (none))) else (some (t581, t582, t583, t586)))) else (some (t581, t582, t583, t586))) = some (r1, r2, r3, r4) := H
 have A3 := Aside0.mk A30
 clear A30
 by_cases c4 : (t583.length : Int) > 0
 ·rw [if_pos c4] at H
  have c4b0 : decide (0 < (t583.length : Int)) = true := decide_eq_true c4
  have c4b1 : decide (0 < t583.length) = true := decide_eq_true (by omega)
  clear c4
  replace H := Option.bind_eq_some_iff.mp H
  obtain ⟨⟨t590, t591⟩, A50, H⟩ := H
  replace H : (if t590 > 0 then ((spec_l21Rd_pick.f k t578 t591 (t583.length : Int)).bind fun bt592 => (if 0 ≤ bt592.1 then (if bt592.1 < (t583.length : Int) then (some (t581, t582, t583, rd t583 bt592.1)) else (none)) else (none))) else (some (t581, t582, t583, t586))) = some (r1, r2, r3, r4) := H
  have A5 := Aside0.mk A50
  clear A50
  by_cases c6 : t590 > 0
  ·rw [if_pos c6] at H
   have c6b0 : decide (0 < t590) = true := decide_eq_true c6
   clear c6
   replace H := Option.bind_eq_some_iff.mp H
   obtain ⟨⟨t592, t593⟩, A70, H⟩ := H
   replace H : (if 0 ≤ t592 then (if t592 < (t583.length : Int) then (some (t581, t582, t583, rd t583 t592)) else (none)) else (none)) = some (r1, r2, r3, r4) := H
   have A7 := Aside0.mk A70
   clear A70
   by_cases c8 : 0 ≤ t592
   ·rw [if_pos c8] at H
    have c8b0 : decide (0 ≤ t592) = true := decide_eq_true c8
    clear c8
    by_cases c9 : t592 < (t583.length : Int)
    ·rw [if_pos c9] at H
     have c9b0 : decide (t592 < (t583.length : Int)) = true := decide_eq_true c9
     clear c9
     simp only [Option.some.injEq, Prod.mk.injEq] at H
     obtain ⟨rfl, rfl, rfl, rfl⟩ := H
     go_enter Try.func36, Try.ntmps36
     try go_wp2_with (first | ((with_reducible refine gate_dst (N := 2) rfl ?_); refine box_event ?hg (N := 2) ?hd (cs := #[.int .i64 0, .int .i64 0, .slice none 0 0]) (t := 25) ?hr ?_; (case hd => rfl); (case hg => rfl); (case hr => first | (go_simp; done) | (go_simp; rfl)); intro gb577 hg w10 hbox hb; have n0_ := Aside0.mk (below_step (by repeat (first | (with_reducible first | exact HB.out | apply below_alloc | apply pw_below_drewN | apply below_drew1) | exact HB.out)) hb); have n1_ := Aside0.mk (hbox); have n2_ := Aside0.mk ((by rw [hg]; exact (below_size (by repeat (first | (with_reducible first | exact HB.out | apply below_alloc | apply pw_below_drewN | apply below_drew1) | exact HB.out))) : w.heap.size ≤ gb577)); have n3_ := Aside0.mk ((by rw [hg]; exact (below_size (by repeat (first | (with_reducible first | exact HB.out | apply below_alloc | apply pw_below_drewN | apply below_drew1) | exact HB.out))) : w.heap.size ≤ gb577)); clear HB; have HB := n0_; have BK577 := n1_; have GW577 := n2_; have GE577 := n3_; clear n0_ n1_ n2_ n3_; clear hb hbox hg) | ((with_reducible refine gate_callee (f := 41) rfl ?_); refine goesL_ (some 9) rfl rfl Try.func41 (by kernel_rfl) rfl #[.slice A0 l0.length c0] rfl (by (try simp only [List.map_toArray, List.map_cons, List.map_nil]); first | done | rfl | (simp only [List.length_drop, List.length_take]; rfl)) ?_; (with_reducible refine (spec_l21Open.calls _ _ l0 t578 t579 w _ ?side1 ?side2 ?side3 A2.out).mono ?_); (case side1 => repeat (first | (with_reducible first | exact HB.out | apply below_alloc | apply pw_below_drewN | apply below_drew1 | refine below_set ?_ GE577.out) | exact HB.out)); (case side2 => exact HR0.out); (case side3 => exact HC0.out); rintro e w11 ⟨g580, rfl, hi, hb, hb2⟩; refine ⟨_, rfl, ?_⟩; have n0_ := Aside0.mk (blk_below (g := gb577) (o := .cells #[.int .i64 0, .int .i64 0, .slice none 0 0] 25 (0, 0)) (by (with_reducible repeat (first | refine blk_drewN ?_ _ | refine blk_drew ?_ | refine blk_alloc ?_ _)); exact BK577.out) hb2); have n1_ := Aside0.mk (hb); have n2_ := Aside0.mk (hi); have n3_ := Aside0.mk (IsS65.ne_blk hi (blk_below (g := gb577) (o := .cells #[.int .i64 0, .int .i64 0, .slice none 0 0] 25 (0, 0)) (by (with_reducible repeat (first | refine blk_drewN ?_ _ | refine blk_drew ?_ | refine blk_alloc ?_ _)); exact BK577.out) hb2) (by decide)); have n4_ := Aside0.mk (Ne.symm (IsS65.ne_blk hi (blk_below (g := gb577) (o := .cells #[.int .i64 0, .int .i64 0, .slice none 0 0] 25 (0, 0)) (by (with_reducible repeat (first | refine blk_drewN ?_ _ | refine blk_drew ?_ | refine blk_alloc ?_ _)); exact BK577.out) hb2) (by decide))); clear BK577; clear HB; have BK577 := n0_; have HB := n1_; have HI580 := n2_; have NB580_577 := n3_; have NB577_580 := n4_; clear n0_ n1_ n2_ n3_ n4_; (try clear hb); (try clear hb2); (try clear hk); (try clear hi)) | ((with_reducible refine gate_callee (f := 59) rfl ?_); refine goesL_ (some 12) rfl rfl Try.func59 (by kernel_rfl) rfl #[.pointer (some ⟨g580, 0, none⟩)] rfl (by (try simp only [List.map_toArray, List.map_cons, List.map_nil]); first | done | rfl | (simp only [List.length_drop, List.length_take]; rfl)) ?_; (with_reducible refine (spec_l17Two.calls k g580 t578 t579 t581 t582 t583 t586 t587 t588 w _ ?side1 ?side2 A3.out).mono ?_); (case side1 => repeat (first | (with_reducible first | exact HI580.out | apply IsS65.alloc | apply IsS65.drewN | apply IsS65.drew | apply IsS65.set_1 | refine IsS65.far ?_ NB580_577.out _) | exact HI580.out)); (case side2 => repeat (first | (with_reducible first | exact HB.out | apply below_alloc | apply pw_below_drewN | apply below_drew1 | refine below_set ?_ (IsS65.ge HI580.out) | refine below_set ?_ GE577.out) | exact HB.out)); rintro e w12 ⟨v584, rfl, ho0, hi, hb, hk⟩; refine ⟨_, rfl, ?_⟩; have n0_ := Aside0.mk (KeepBut.blk hk (g' := gb577) (o := .cells #[.int .i64 0, .int .i64 0, .slice none 0 0] 25 (0, 0)) (by (with_reducible repeat (first | refine blk_drewN ?_ _ | refine blk_drew ?_ | refine blk_alloc ?_ _)); exact BK577.out) NB577_580.out (by simp)); have n1_ := Aside0.mk (Kd.R_lower ho0 (below_size (by repeat (first | (with_reducible first | exact HB.out | apply below_alloc | apply pw_below_drewN | apply below_drew1 | refine below_set ?_ (IsS65.ge HI580.out) | refine below_set ?_ GE577.out) | exact HB.out)))); have n2_ := Aside0.mk (hb); have n3_ := Aside0.mk (hi); clear BK577; clear HB; clear HI580; have BK577 := n0_; have HO585 := n1_; have HB := n2_; have HI580 := n3_; clear n0_ n1_ n2_ n3_; (try clear hb); (try clear hb2); (try clear hk); (try clear hi); (try clear ho0)) | ((with_reducible refine gate_dst (N := 5) rfl ?_); refine box_event ?hg (N := 5) ?hd (cs := #[.int .i64 0, .int .i64 0, .slice none 0 0]) (t := 25) ?hr ?_; (case hd => rfl); (case hg => rfl); (case hr => first | (go_simp; done) | (go_simp; rfl)); intro gb589 hg w13 hbox hb; have n0_ := Aside0.mk (Kd.R_below (by (with_reducible repeat (first | apply Kd.R_alloc | apply Kd.R_drewN | apply Kd.R_drew)); exact HO585.out) hb); have n1_ := Aside0.mk (blk_below (g := gb577) (o := .cells #[.int .i64 0, .int .i64 0, .slice none 0 0] 25 (0, 0)) (by (with_reducible repeat (first | refine blk_drewN ?_ _ | refine blk_drew ?_ | refine blk_alloc ?_ _)); exact BK577.out) hb); have n2_ := Aside0.mk (IsS65.below (by repeat (first | (with_reducible first | exact HI580.out | apply IsS65.alloc | apply IsS65.drewN | apply IsS65.drew | apply IsS65.set_1 | refine IsS65.far ?_ NB580_577.out _) | exact HI580.out)) hb); have n3_ := Aside0.mk (below_step (by repeat (first | (with_reducible first | exact HB.out | apply below_alloc | apply pw_below_drewN | apply below_drew1 | refine below_set ?_ (IsS65.ge HI580.out) | refine below_set ?_ GE577.out) | exact HB.out)) hb); have n4_ := Aside0.mk (hbox); have n5_ := Aside0.mk ((by rw [hg]; exact (below_size (by repeat (first | (with_reducible first | exact HB.out | apply below_alloc | apply pw_below_drewN | apply below_drew1 | refine below_set ?_ (IsS65.ge HI580.out) | refine below_set ?_ GE577.out) | exact HB.out))) : w.heap.size ≤ gb589)); have n6_ := Aside0.mk ((by rw [hg]; exact (below_size (by repeat (first | (with_reducible first | exact HB.out | apply below_alloc | apply pw_below_drewN | apply below_drew1 | refine below_set ?_ (IsS65.ge HI580.out) | refine below_set ?_ GE577.out) | exact HB.out))) : w.heap.size ≤ gb589)); have n7_ := Aside0.mk ((by rw [hg]; exact Nat.ne_of_lt (blk_lt (g := gb577) (o := .cells #[.int .i64 0, .int .i64 0, .slice none 0 0] 25 (0, 0)) (by (with_reducible repeat (first | refine blk_drewN ?_ _ | refine blk_drew ?_ | refine blk_alloc ?_ _)); exact BK577.out)) : gb577 ≠ gb589)); have n8_ := Aside0.mk ((by rw [hg]; exact Nat.ne_of_gt (blk_lt (g := gb577) (o := .cells #[.int .i64 0, .int .i64 0, .slice none 0 0] 25 (0, 0)) (by (with_reducible repeat (first | refine blk_drewN ?_ _ | refine blk_drew ?_ | refine blk_alloc ?_ _)); exact BK577.out)) : gb589 ≠ gb577)); have n9_ := Aside0.mk ((by rw [hg]; exact Nat.ne_of_lt (IsS65.lt (show IsS65 w _ g580 t578 t588 from by repeat (first | (with_reducible first | exact HI580.out | apply IsS65.alloc | apply IsS65.drewN | apply IsS65.drew | apply IsS65.set_1 | refine IsS65.far ?_ NB580_577.out _) | exact HI580.out))) : g580 ≠ gb589)); have n10_ := Aside0.mk ((by rw [hg]; exact Nat.ne_of_gt (IsS65.lt (show IsS65 w _ g580 t578 t588 from by repeat (first | (with_reducible first | exact HI580.out | apply IsS65.alloc | apply IsS65.drewN | apply IsS65.drew | apply IsS65.set_1 | refine IsS65.far ?_ NB580_577.out _) | exact HI580.out))) : gb589 ≠ g580)); clear HO585; clear BK577; clear HI580; clear HB; have HO585 := n0_; have BK577 := n1_; have HI580 := n2_; have HB := n3_; have BK589 := n4_; have GW589 := n5_; have GE589 := n6_; have NB577_589 := n7_; have NB589_577 := n8_; have NB580_589 := n9_; have NB589_580 := n10_; clear n0_ n1_ n2_ n3_ n4_ n5_ n6_ n7_ n8_ n9_ n10_; clear hb hbox hg; have hnb14 := NB589_577.out; have hnc14 := NB577_589.out; have hnb15 := NB589_580.out; have hnc15 := NB580_589.out; have hcz16_0 : w13.cell? ⟨gb589, 0, none⟩ = some (.int .i64 0) := (blk_cell BK589.out 0).trans rfl; have hcz16_1 : w13.cell? ⟨gb589, 1, none⟩ = some (.int .i64 0) := (blk_cell BK589.out 1).trans rfl; have hcz16_2 : w13.cell? ⟨gb589, 2, none⟩ = some (.slice none 0 0) := (blk_cell BK589.out 2).trans rfl; have hfz16_0 := blk_frozen BK589.out 0; have hfz16_1 := blk_frozen BK589.out 1; have hfz16_2 := blk_frozen BK589.out 2; obtain ⟨Ao17, co17, eo17⟩ := Kd.R_slice HO585.out; subst eo17) | (go_at_call 61; (with_reducible refine (spec_l21Rd_pick.calls k g580 t578 t588 4 t590 t591 w _ ?side1 ?side2 A5.out).mono ?_); (case side1 => repeat (first | (with_reducible first | exact HI580.out | apply IsS65.alloc | apply IsS65.drewN | apply IsS65.drew | apply IsS65.set_1 | refine IsS65.far ?_ NB580_577.out _ | refine IsS65.far ?_ NB580_589.out _) | exact HI580.out)); (case side2 => repeat (first | (with_reducible first | exact HB.out | apply below_alloc | apply pw_below_drewN | apply below_drew1 | refine below_set ?_ (IsS65.ge HI580.out) | refine below_set ?_ GE577.out | refine below_set ?_ GE589.out) | exact HB.out)); rintro e w18 ⟨rfl, hi, hb, hk⟩; have n0_ := Aside0.mk (KeepBut.blk hk (g' := gb577) (o := .cells #[.int .i64 0, .int .i64 0, .slice none 0 0] 25 (0, 0)) (by (with_reducible repeat (first | refine blk_drewN ?_ _ | refine blk_drew ?_ | refine blk_alloc ?_ _)); refine blk_far ?_ NB577_589.out _; (with_reducible repeat (first | refine blk_drewN ?_ _ | refine blk_drew ?_ | refine blk_alloc ?_ _)); refine blk_far ?_ NB577_589.out _; (with_reducible repeat (first | refine blk_drewN ?_ _ | refine blk_drew ?_ | refine blk_alloc ?_ _)); refine blk_far ?_ NB577_589.out _; (with_reducible repeat (first | refine blk_drewN ?_ _ | refine blk_drew ?_ | refine blk_alloc ?_ _)); exact BK577.out) NB577_580.out (by simp)); have n1_ := Aside0.mk (Kd.R_mono (Kd.R_keep (IsS65.apart (show IsS65 w _ g580 t578 t588 from by repeat (first | (with_reducible first | exact HI580.out | apply IsS65.alloc | apply IsS65.drewN | apply IsS65.drew | apply IsS65.set_1 | refine IsS65.far ?_ NB580_577.out _ | refine IsS65.far ?_ NB580_589.out _) | exact HI580.out)) (by (with_reducible repeat (first | apply Kd.R_alloc | apply Kd.R_drewN | apply Kd.R_drew)); exact (Kd.R_mono (Kd.R_far (p := ⟨gb589, 2, none⟩) (Kd.R_far (p := ⟨gb589, 1, none⟩) (Kd.R_far (p := ⟨gb589, 0, none⟩) (Kd.R_types HO585.out BK589.out (by decide)) (fun _ hk => hk.2) (.int .i64 t581)) (fun _ hk => hk.2) (.int .i64 t582)) (fun _ hk => hk.2) (.slice Ao17 t583.length co17)) (fun _ h_ => h_.1))) (by decide)) hk (fun _ h => h.2)) (fun _ h => h.1)); have n2_ := Aside0.mk (KeepBut.blk hk (g' := gb589) (o := .cells #[.int .i64 t581, .int .i64 t582, .slice Ao17 t583.length co17] 25 (0, 0)) (by (with_reducible repeat (first | refine blk_drewN ?_ _ | refine blk_drew ?_ | refine blk_alloc ?_ _)); refine blk_put (cs := #[.int .i64 t581, .int .i64 t582, .slice none 0 0]) ?_ 2 _ rfl; (with_reducible repeat (first | refine blk_drewN ?_ _ | refine blk_drew ?_ | refine blk_alloc ?_ _)); refine blk_put (cs := #[.int .i64 t581, .int .i64 0, .slice none 0 0]) ?_ 1 _ rfl; (with_reducible repeat (first | refine blk_drewN ?_ _ | refine blk_drew ?_ | refine blk_alloc ?_ _)); refine blk_put (cs := #[.int .i64 0, .int .i64 0, .slice none 0 0]) ?_ 0 _ rfl; (with_reducible repeat (first | refine blk_drewN ?_ _ | refine blk_drew ?_ | refine blk_alloc ?_ _)); exact BK589.out) NB589_580.out (by simp)); have n3_ := Aside0.mk (hb); have n4_ := Aside0.mk (hi); clear BK577; clear HO585; clear BK589; clear HB; clear HI580; have BK577 := n0_; have HO585 := n1_; have BK589 := n2_; have HB := n3_; have HI580 := n4_; clear n0_ n1_ n2_ n3_ n4_; (try clear hb); (try clear hb2); (try clear hk); (try clear hi)))
     have n0_ := Aside0.mk (Kd.R_drew HO585.out)
     have n1_ := Aside0.mk (blk_drew BK577.out)
     have n2_ := Aside0.mk (blk_drew BK589.out)
     have n3_ := Aside0.mk (IsS65.drew HI580.out)
     have n4_ := Aside0.mk (below_drew1 HB.out)
     clear HO585
     clear BK577
     clear BK589
     clear HI580
     clear HB
     have HO585 := n0_
     have BK577 := n1_
     have BK589 := n2_
     have HI580 := n3_
     have HB := n4_
     clear n0_ n1_ n2_ n3_ n4_
     have p594 : 0 ≤ (t592 : Int) := of_decide_eq_true (by first | (with_reducible assumption) | assumption)
     have q594 : t592 < (t583.length : Int) := of_decide_eq_true (by first | (with_reducible assumption) | assumption)
     obtain ⟨ad594, e594, hx594_0⟩ := Kd.at_int (Kd.R_reads' HO585.out).2.2 t592 p594 q594
     cases e594
     replace p594 := eq_true p594
     replace q594 := eq_true q594
     refine start_ (n := 12) (S := fun w' => w'.cell? ⟨gb589, 0, none⟩ = some (.int .i64 t581) ∧ w'.cell? ⟨gb589, 1, none⟩ = some (.int .i64 t582) ∧ w'.cell? ⟨gb589, 2, none⟩ = some (.slice (some ad594) t583.length co17) ∧ w'.cell? (ad594.add (t592).toNat) = some (.int .i64 (rd t583 t592))) (ds := []) #[false, false, false, false, false, false, false, false, false, false, false, false] (by kernel_rfl) rfl rfl ⟨(blk_cell BK589.out 0).trans rfl, (blk_cell BK589.out 1).trans rfl, (blk_cell BK589.out 2).trans rfl, hx594_0⟩ (fun hHeld => ?_); refine with_tabW spec_DrawMendLink.tab4 spec_DrawMendLink.bits4 (fun HT_ HW_ => ?_)
     generalize w18.drew = w19 at HO585 BK577 BK589 HI580 HB hx594_0 hHeld ⊢
     refine pure_ (i := 1) (N := some 26) (v := ?_) (a' := ?_) #[false, true, false, false, false, false, false, false, false, false, false, false] rfl rfl (any_of HT_.out (by kernel_rfl)) (fun _ _ _ h => h) (Or.inl ⟨by rfl, ?_⟩) ?_ ?_
     rotate_left
     ·intro w'
      go_simp
      with_reducible rfl
     rotate_left
     ·simp only [Act.put, List.setIfInBounds_toArray, List.set_cons_zero, List.set_cons_succ, i64_w, i32_w]
      rfl
     refine pure_ (i := 3) (N := some 28) (v := ?_) (a' := ?_) #[false, true, false, true, false, false, false, false, false, false, false, false] rfl rfl (any_of HT_.out (by kernel_rfl)) (fun _ _ _ h => h) (Or.inl ⟨by rfl, ?_⟩) ?_ ?_
     rotate_left
     ·intro w'
      go_simp
      with_reducible rfl
     rotate_left
     ·simp only [Act.put, List.setIfInBounds_toArray, List.set_cons_zero, List.set_cons_succ, i64_w, i32_w]
      rfl
     refine pure_ (i := 4) (N := some 29) (v := ?_) (a' := ?_) #[false, true, false, true, true, false, false, false, false, false, false, false] rfl rfl (any_of HT_.out (by kernel_rfl)) (fun _ _ _ h => h) (Or.inl ⟨by rfl, ?_⟩) ?_ ?_
     rotate_left
     ·intro w'
      go_simp
      with_reducible rfl
     rotate_left
     ·simp only [Act.put, List.setIfInBounds_toArray, List.set_cons_zero, List.set_cons_succ, i64_w, i32_w]
      rfl
     refine take_ (i := 0) (N := some 25) (v := ?_) (a' := ?_) #[true, true, false, true, true, false, false, false, false, false, false, false] rfl rfl (take_ofW HT_.out HW_.out (by kernel_rfl)) (fun _ _ _ h => h) (Or.inl ⟨by rfl, ?_⟩) hHeld ?_ ?_
     rotate_left
     ·rintro w' ⟨s0, s1, s2, s3⟩
      go_simp
      with_reducible rfl
     rotate_left
     ·simp only [Act.put, List.setIfInBounds_toArray, List.set_cons_zero, List.set_cons_succ, i64_w, i32_w]
      rfl
     refine take_ (i := 2) (N := some 27) (v := ?_) (a' := ?_) #[true, true, true, true, true, false, false, false, false, false, false, false] rfl rfl (take_ofW HT_.out HW_.out (by kernel_rfl)) (fun _ _ _ h => h) (Or.inl ⟨by rfl, ?_⟩) hHeld ?_ ?_
     rotate_left
     ·rintro w' ⟨s0, s1, s2, s3⟩
      go_simp
      with_reducible rfl
     rotate_left
     ·simp only [Act.put, List.setIfInBounds_toArray, List.set_cons_zero, List.set_cons_succ, i64_w, i32_w]
      rfl
     refine take_ (i := 5) (N := some 30) (v := ?_) (a' := ?_) #[true, true, true, true, true, true, false, false, false, false, false, false] rfl rfl (take_ofW HT_.out HW_.out (by kernel_rfl)) (fun _ _ _ h => h) (Or.inl ⟨by rfl, ?_⟩) hHeld ?_ ?_
     rotate_left
     ·rintro w' ⟨s0, s1, s2, s3⟩
      go_simp
      with_reducible rfl
     rotate_left
     ·simp only [Act.put, List.setIfInBounds_toArray, List.set_cons_zero, List.set_cons_succ, i64_w, i32_w]
      rfl
     refine pure_ (i := 6) (N := some 31) (v := ?_) (a' := ?_) #[true, true, true, true, true, true, true, false, false, false, false, false] rfl rfl (any_of HT_.out (by kernel_rfl)) (fun _ _ _ h => h) (Or.inl ⟨by rfl, ?_⟩) ?_ ?_
     rotate_left
     ·intro w'
      go_simp
      with_reducible rfl
     rotate_left
     ·simp only [Act.put, List.setIfInBounds_toArray, List.set_cons_zero, List.set_cons_succ, i64_w, i32_w]
      rfl
     refine one_ (i := 7) (N := some 32) #[true, true, true, true, true, true, true, true, false, false, false, false] rfl rfl (one_of HT_.out (by kernel_rfl)) (by decide) (fun K hK => ?_)
     refine goes_ Try.func61 (by kernel_rfl) rfl #[.pointer (some ⟨g580, 0, none⟩), .int .i64 (t583.length : Int)] (by rfl) rfl rfl (by (try simp only [List.map_toArray, List.map_cons, List.map_nil]); first | done | rfl | (simp only [List.length_drop, List.length_take]; rfl)) ?_
     with_reducible refine (spec_l21Rd_pick.calls k g580 t578 t591 (t583.length : Int) t592 t593 w _ ?side1 ?side2 A7.out).mono ?_
     (case side1 => repeat (first | (with_reducible first | exact HI580.out | apply IsS65.alloc | apply IsS65.drewN | apply IsS65.drew | apply IsS65.set_1 | refine IsS65.far ?_ NB580_577.out _ | refine IsS65.far ?_ NB580_589.out _) | exact HI580.out))
     (case side2 => repeat (first | (with_reducible first | exact HB.out | apply below_alloc | apply pw_below_drewN | apply below_drew1 | refine below_set ?_ (IsS65.ge HI580.out) | refine below_set ?_ GE577.out | refine below_set ?_ GE589.out) | exact HB.out))
     rintro e w20 ⟨rfl, hi, hb, hk⟩
     have HS3_ := keep_cell hk (hHeld.2.2.2) (by first | (rw [add_block]; exact Kd.own_blk (IsS65.own_ne HI580.out HO585.out (by decide))) | (show (Addr.add _ _).block ≠ _; rw [add_block]; exact Kd.own_blk (IsS65.own_ne HI580.out HO585.out (by decide))) | exact Kd.own_blk (IsS65.own_ne HI580.out HO585.out (by decide)))
     refine ⟨_, rfl, ?_⟩
     have n0_ := Aside0.mk (KeepBut.blk hk (g' := gb577) (o := .cells #[.int .i64 0, .int .i64 0, .slice none 0 0] 25 (0, 0)) (by (with_reducible repeat (first | refine blk_drewN ?_ _ | refine blk_drew ?_ | refine blk_alloc ?_ _)); exact BK577.out) NB577_580.out (by simp))
     have n1_ := Aside0.mk (Kd.R_mono (Kd.R_keep (IsS65.apart (show IsS65 w _ g580 t578 t591 from by repeat (first | (with_reducible first | exact HI580.out | apply IsS65.alloc | apply IsS65.drewN | apply IsS65.drew | apply IsS65.set_1 | refine IsS65.far ?_ NB580_577.out _ | refine IsS65.far ?_ NB580_589.out _) | exact HI580.out)) (by (with_reducible repeat (first | apply Kd.R_alloc | apply Kd.R_drewN | apply Kd.R_drew)); exact HO585.out) (by decide)) hk (fun _ h => h.2)) (fun _ h => h.1))
     have n2_ := Aside0.mk (KeepBut.blk hk (g' := gb589) (o := .cells #[.int .i64 t581, .int .i64 t582, .slice (some ad594) t583.length co17] 25 (0, 0)) (by (with_reducible repeat (first | refine blk_drewN ?_ _ | refine blk_drew ?_ | refine blk_alloc ?_ _)); exact BK589.out) NB589_580.out (by simp))
     have n3_ := Aside0.mk (hb)
     have n4_ := Aside0.mk (hi)
     clear BK577
     clear HO585
     clear BK589
     clear HB
     clear HI580
     have BK577 := n0_
     have HO585 := n1_
     have BK589 := n2_
     have HB := n3_
     have HI580 := n4_
     clear n0_ n1_ n2_ n3_ n4_
     (try clear hb)
     (try clear hb2)
     (try clear hk)
     (try clear hi)
     refine hK.out _ _ ⟨(blk_cell BK589.out 0).trans rfl, (blk_cell BK589.out 1).trans rfl, (blk_cell BK589.out 2).trans rfl, HS3_⟩ (fun hHeld => ?_)
     clear hK K
     refine norm_ (a' := ?_) ?_ ?_
     rotate_left
     ·show Act.put _ (some 32) _ = _
      simp only [Act.put, List.setIfInBounds_toArray, List.set_cons_zero, List.set_cons_succ, i64_w, i32_w]
      rfl
     refine pure_ (i := 8) (N := some 33) (v := ?_) (a' := ?_) #[true, true, true, true, true, true, true, true, true, false, false, false] rfl rfl (any_of HT_.out (by kernel_rfl)) (fun _ _ _ h => h) (Or.inl ⟨by rfl, ?_⟩) ?_ ?_
     rotate_left
     ·intro w'
      go_simp
      with_reducible rfl
     rotate_left
     ·simp only [Act.put, List.setIfInBounds_toArray, List.set_cons_zero, List.set_cons_succ, i64_w, i32_w]
      rfl
     refine take_ (i := 9) (N := some 34) (v := ?_) (a' := ?_) #[true, true, true, true, true, true, true, true, true, true, false, false] rfl rfl (take_ofW HT_.out HW_.out (by kernel_rfl)) (fun _ _ _ h => h) (Or.inl ⟨by rfl, ?_⟩) hHeld ?_ ?_
     rotate_left
     ·rintro w' ⟨s0, s1, s2, s3⟩
      go_simp
      with_reducible rfl
     rotate_left
     ·simp only [Act.put, List.setIfInBounds_toArray, List.set_cons_zero, List.set_cons_succ, i64_w, i32_w]
      rfl
     refine one_ (i := 10) (N := none) #[true, true, true, true, true, true, true, true, true, true, true, false] rfl rfl (one_of HT_.out (by kernel_rfl)) (by decide) (fun K hK => ?_)
     have hs21 : w20.cell? ⟨gb577, 0, none⟩ = some (.int .i64 0) := (blk_cell BK577.out 0).trans rfl
     have hfs21 := blk_frozen BK577.out 0
     have hns21_1 := NB589_577.out
     have hms21_1 := NB577_589.out
     have hs22 : w20.cell? ⟨gb577, 1, none⟩ = some (.int .i64 0) := (blk_cell BK577.out 1).trans rfl
     have hfs22 := blk_frozen BK577.out 1
     have hns22_1 := NB589_577.out
     have hms22_1 := NB577_589.out
     have hs23 : w20.cell? ⟨gb577, 2, none⟩ = some (.slice none 0 0) := (blk_cell BK577.out 2).trans rfl
     have hfs23 := blk_frozen BK577.out 2
     have hns23_1 := NB589_577.out
     have hms23_1 := NB577_589.out
     refine skip_ (w1 := ?_) (by rfl) rfl ?_ ?_
     rotate_left
     ·go_simp
      rfl
     refine hK.out _ _ ⟨((cell_far (p := ⟨gb577, _, none⟩) NB589_577.out _).trans (((cell_far (p := ⟨gb577, _, none⟩) NB589_577.out _).trans (((cell_far (p := ⟨gb577, _, none⟩) NB589_577.out _).trans (hHeld.1)))))), ((cell_far (p := ⟨gb577, _, none⟩) NB589_577.out _).trans (((cell_far (p := ⟨gb577, _, none⟩) NB589_577.out _).trans (((cell_far (p := ⟨gb577, _, none⟩) NB589_577.out _).trans (hHeld.2.1)))))), ((cell_far (p := ⟨gb577, _, none⟩) NB589_577.out _).trans (((cell_far (p := ⟨gb577, _, none⟩) NB589_577.out _).trans (((cell_far (p := ⟨gb577, _, none⟩) NB589_577.out _).trans (hHeld.2.2.1)))))), ((cell_far (p := ⟨gb577, _, none⟩) (by first | exact Kd.own_blk (Kd.R_ne HO585.out BK577.out (by decide)) | (rw [add_block]; exact Kd.own_blk (Kd.R_ne HO585.out BK577.out (by decide))) | (show (Addr.add _ _).block ≠ _; rw [add_block]; exact Kd.own_blk (Kd.R_ne HO585.out BK577.out (by decide))) | (dsimp only; exact Kd.own_blk (Kd.R_ne HO585.out BK577.out (by decide)))) _).trans (((cell_far (p := ⟨gb577, _, none⟩) (by first | exact Kd.own_blk (Kd.R_ne HO585.out BK577.out (by decide)) | (rw [add_block]; exact Kd.own_blk (Kd.R_ne HO585.out BK577.out (by decide))) | (show (Addr.add _ _).block ≠ _; rw [add_block]; exact Kd.own_blk (Kd.R_ne HO585.out BK577.out (by decide))) | (dsimp only; exact Kd.own_blk (Kd.R_ne HO585.out BK577.out (by decide)))) _).trans (((cell_far (p := ⟨gb577, _, none⟩) (by first | exact Kd.own_blk (Kd.R_ne HO585.out BK577.out (by decide)) | (rw [add_block]; exact Kd.own_blk (Kd.R_ne HO585.out BK577.out (by decide))) | (show (Addr.add _ _).block ≠ _; rw [add_block]; exact Kd.own_blk (Kd.R_ne HO585.out BK577.out (by decide))) | (dsimp only; exact Kd.own_blk (Kd.R_ne HO585.out BK577.out (by decide)))) _).trans (hHeld.2.2.2))))))⟩ (fun hHeld => ?_)
     clear hK K
     refine pure_ (i := 11) (N := some 3) (v := ?_) (a' := ?_) #[true, true, true, true, true, true, true, true, true, true, true, true] rfl rfl (any_of HT_.out (by kernel_rfl)) (fun _ _ _ h => h) (Or.inl ⟨by rfl, ?_⟩) ?_ ?_
     rotate_left
     ·intro w'
      go_simp
      with_reducible rfl
     rotate_left
     ·simp only [Act.put, List.setIfInBounds_toArray, List.set_cons_zero, List.set_cons_succ, i64_w, i32_w]
      rfl
     refine done_ (done_of HT_.out (by kernel_rfl)) ?_
     try go_wp2
     refine bodyPost_ret (results_ct rfl _ _ gb577 25 #[.int .i64 t581, .int .i64 t582, .slice (some ad594) t583.length co17] (0, 0) _ rfl (by (with_reducible repeat (first | refine blk_drewN ?_ _ | refine blk_drew ?_ | refine blk_alloc ?_ _)); refine blk_put (cs := #[.int .i64 t581, .int .i64 t582, .slice none 0 0]) ?_ 2 _ rfl; (with_reducible repeat (first | refine blk_drewN ?_ _ | refine blk_drew ?_ | refine blk_alloc ?_ _)); refine blk_put (cs := #[.int .i64 t581, .int .i64 0, .slice none 0 0]) ?_ 1 _ rfl; (with_reducible repeat (first | refine blk_drewN ?_ _ | refine blk_drew ?_ | refine blk_alloc ?_ _)); refine blk_put (cs := #[.int .i64 0, .int .i64 0, .slice none 0 0]) ?_ 0 _ rfl; (with_reducible repeat (first | refine blk_drewN ?_ _ | refine blk_drew ?_ | refine blk_alloc ?_ _)); exact BK577.out) Try.underlying25 rfl (by kernel_rfl)) rfl ?_
     exact ⟨_, by first | rfl | (simp [errW_none, errW_some] <;> rfl) | (simp [*, errW_none, errW_some] <;> rfl), by (with_reducible repeat (first | apply Kd.R_alloc | apply Kd.R_drewN | apply Kd.R_drew)); exact Kd.R_mono (Kd.R_far (p := ⟨gb577, 2, none⟩) (Kd.R_far (p := ⟨gb577, 1, none⟩) (Kd.R_far (p := ⟨gb577, 0, none⟩) (Kd.R_types HO585.out BK577.out (by decide)) (fun _ hk => hk.2) (.int .i64 t581)) (fun _ hk => hk.2) (.int .i64 t582)) (fun _ hk => hk.2) (.slice (some ad594) t583.length co17)) (fun _ hk => trivial), by repeat (first | (with_reducible first | exact HB.out | apply below_alloc | apply pw_below_drewN | apply below_drew1 | refine below_set ?_ (IsS65.ge HI580.out) | refine below_set ?_ GE577.out | refine below_set ?_ GE589.out) | exact HB.out)⟩
    ·rw [if_neg c9] at H
     exact absurd H (by simp)
   ·rw [if_neg c8] at H
    exact absurd H (by simp)
  ·rw [if_neg c6] at H
   have c6b0 : decide (0 < t590) = false := decide_eq_false c6
   clear c6
   simp only [Option.some.injEq, Prod.mk.injEq] at H
   obtain ⟨rfl, rfl, rfl, rfl⟩ := H
   go_enter Try.func36, Try.ntmps36
   go_wp2_with (first | ((with_reducible refine gate_dst (N := 2) rfl ?_); refine box_event ?hg (N := 2) ?hd (cs := #[.int .i64 0, .int .i64 0, .slice none 0 0]) (t := 25) ?hr ?_; (case hd => rfl); (case hg => rfl); (case hr => first | (go_simp; done) | (go_simp; rfl)); intro gb577 hg w24 hbox hb; have n0_ := Aside0.mk (below_step (by repeat (first | (with_reducible first | exact HB.out | apply below_alloc | apply pw_below_drewN | apply below_drew1) | exact HB.out)) hb); have n1_ := Aside0.mk (hbox); have n2_ := Aside0.mk ((by rw [hg]; exact (below_size (by repeat (first | (with_reducible first | exact HB.out | apply below_alloc | apply pw_below_drewN | apply below_drew1) | exact HB.out))) : w.heap.size ≤ gb577)); have n3_ := Aside0.mk ((by rw [hg]; exact (below_size (by repeat (first | (with_reducible first | exact HB.out | apply below_alloc | apply pw_below_drewN | apply below_drew1) | exact HB.out))) : w.heap.size ≤ gb577)); clear HB; have HB := n0_; have BK577 := n1_; have GW577 := n2_; have GE577 := n3_; clear n0_ n1_ n2_ n3_; clear hb hbox hg) | ((with_reducible refine gate_callee (f := 41) rfl ?_); refine goesL_ (some 9) rfl rfl Try.func41 (by kernel_rfl) rfl #[.slice A0 l0.length c0] rfl (by (try simp only [List.map_toArray, List.map_cons, List.map_nil]); first | done | rfl | (simp only [List.length_drop, List.length_take]; rfl)) ?_; (with_reducible refine (spec_l21Open.calls _ _ l0 t578 t579 w _ ?side1 ?side2 ?side3 A2.out).mono ?_); (case side1 => repeat (first | (with_reducible first | exact HB.out | apply below_alloc | apply pw_below_drewN | apply below_drew1 | refine below_set ?_ GE577.out) | exact HB.out)); (case side2 => exact HR0.out); (case side3 => exact HC0.out); rintro e w25 ⟨g580, rfl, hi, hb, hb2⟩; refine ⟨_, rfl, ?_⟩; have n0_ := Aside0.mk (blk_below (g := gb577) (o := .cells #[.int .i64 0, .int .i64 0, .slice none 0 0] 25 (0, 0)) (by (with_reducible repeat (first | refine blk_drewN ?_ _ | refine blk_drew ?_ | refine blk_alloc ?_ _)); exact BK577.out) hb2); have n1_ := Aside0.mk (hb); have n2_ := Aside0.mk (hi); have n3_ := Aside0.mk (IsS65.ne_blk hi (blk_below (g := gb577) (o := .cells #[.int .i64 0, .int .i64 0, .slice none 0 0] 25 (0, 0)) (by (with_reducible repeat (first | refine blk_drewN ?_ _ | refine blk_drew ?_ | refine blk_alloc ?_ _)); exact BK577.out) hb2) (by decide)); have n4_ := Aside0.mk (Ne.symm (IsS65.ne_blk hi (blk_below (g := gb577) (o := .cells #[.int .i64 0, .int .i64 0, .slice none 0 0] 25 (0, 0)) (by (with_reducible repeat (first | refine blk_drewN ?_ _ | refine blk_drew ?_ | refine blk_alloc ?_ _)); exact BK577.out) hb2) (by decide))); clear BK577; clear HB; have BK577 := n0_; have HB := n1_; have HI580 := n2_; have NB580_577 := n3_; have NB577_580 := n4_; clear n0_ n1_ n2_ n3_ n4_; (try clear hb); (try clear hb2); (try clear hk); (try clear hi)) | ((with_reducible refine gate_callee (f := 59) rfl ?_); refine goesL_ (some 12) rfl rfl Try.func59 (by kernel_rfl) rfl #[.pointer (some ⟨g580, 0, none⟩)] rfl (by (try simp only [List.map_toArray, List.map_cons, List.map_nil]); first | done | rfl | (simp only [List.length_drop, List.length_take]; rfl)) ?_; (with_reducible refine (spec_l17Two.calls k g580 t578 t579 t581 t582 t583 t586 t587 t588 w _ ?side1 ?side2 A3.out).mono ?_); (case side1 => repeat (first | (with_reducible first | exact HI580.out | apply IsS65.alloc | apply IsS65.drewN | apply IsS65.drew | apply IsS65.set_1 | refine IsS65.far ?_ NB580_577.out _) | exact HI580.out)); (case side2 => repeat (first | (with_reducible first | exact HB.out | apply below_alloc | apply pw_below_drewN | apply below_drew1 | refine below_set ?_ (IsS65.ge HI580.out) | refine below_set ?_ GE577.out) | exact HB.out)); rintro e w26 ⟨v584, rfl, ho0, hi, hb, hk⟩; refine ⟨_, rfl, ?_⟩; have n0_ := Aside0.mk (KeepBut.blk hk (g' := gb577) (o := .cells #[.int .i64 0, .int .i64 0, .slice none 0 0] 25 (0, 0)) (by (with_reducible repeat (first | refine blk_drewN ?_ _ | refine blk_drew ?_ | refine blk_alloc ?_ _)); exact BK577.out) NB577_580.out (by simp)); have n1_ := Aside0.mk (Kd.R_lower ho0 (below_size (by repeat (first | (with_reducible first | exact HB.out | apply below_alloc | apply pw_below_drewN | apply below_drew1 | refine below_set ?_ (IsS65.ge HI580.out) | refine below_set ?_ GE577.out) | exact HB.out)))); have n2_ := Aside0.mk (hb); have n3_ := Aside0.mk (hi); clear BK577; clear HB; clear HI580; have BK577 := n0_; have HO585 := n1_; have HB := n2_; have HI580 := n3_; clear n0_ n1_ n2_ n3_; (try clear hb); (try clear hb2); (try clear hk); (try clear hi); (try clear ho0)) | ((with_reducible refine gate_dst (N := 5) rfl ?_); refine box_event ?hg (N := 5) ?hd (cs := #[.int .i64 0, .int .i64 0, .slice none 0 0]) (t := 25) ?hr ?_; (case hd => rfl); (case hg => rfl); (case hr => first | (go_simp; done) | (go_simp; rfl)); intro gb589 hg w27 hbox hb; have n0_ := Aside0.mk (Kd.R_below (by (with_reducible repeat (first | apply Kd.R_alloc | apply Kd.R_drewN | apply Kd.R_drew)); exact HO585.out) hb); have n1_ := Aside0.mk (blk_below (g := gb577) (o := .cells #[.int .i64 0, .int .i64 0, .slice none 0 0] 25 (0, 0)) (by (with_reducible repeat (first | refine blk_drewN ?_ _ | refine blk_drew ?_ | refine blk_alloc ?_ _)); exact BK577.out) hb); have n2_ := Aside0.mk (IsS65.below (by repeat (first | (with_reducible first | exact HI580.out | apply IsS65.alloc | apply IsS65.drewN | apply IsS65.drew | apply IsS65.set_1 | refine IsS65.far ?_ NB580_577.out _) | exact HI580.out)) hb); have n3_ := Aside0.mk (below_step (by repeat (first | (with_reducible first | exact HB.out | apply below_alloc | apply pw_below_drewN | apply below_drew1 | refine below_set ?_ (IsS65.ge HI580.out) | refine below_set ?_ GE577.out) | exact HB.out)) hb); have n4_ := Aside0.mk (hbox); have n5_ := Aside0.mk ((by rw [hg]; exact (below_size (by repeat (first | (with_reducible first | exact HB.out | apply below_alloc | apply pw_below_drewN | apply below_drew1 | refine below_set ?_ (IsS65.ge HI580.out) | refine below_set ?_ GE577.out) | exact HB.out))) : w.heap.size ≤ gb589)); have n6_ := Aside0.mk ((by rw [hg]; exact (below_size (by repeat (first | (with_reducible first | exact HB.out | apply below_alloc | apply pw_below_drewN | apply below_drew1 | refine below_set ?_ (IsS65.ge HI580.out) | refine below_set ?_ GE577.out) | exact HB.out))) : w.heap.size ≤ gb589)); have n7_ := Aside0.mk ((by rw [hg]; exact Nat.ne_of_lt (blk_lt (g := gb577) (o := .cells #[.int .i64 0, .int .i64 0, .slice none 0 0] 25 (0, 0)) (by (with_reducible repeat (first | refine blk_drewN ?_ _ | refine blk_drew ?_ | refine blk_alloc ?_ _)); exact BK577.out)) : gb577 ≠ gb589)); have n8_ := Aside0.mk ((by rw [hg]; exact Nat.ne_of_gt (blk_lt (g := gb577) (o := .cells #[.int .i64 0, .int .i64 0, .slice none 0 0] 25 (0, 0)) (by (with_reducible repeat (first | refine blk_drewN ?_ _ | refine blk_drew ?_ | refine blk_alloc ?_ _)); exact BK577.out)) : gb589 ≠ gb577)); have n9_ := Aside0.mk ((by rw [hg]; exact Nat.ne_of_lt (IsS65.lt (show IsS65 w _ g580 t578 t588 from by repeat (first | (with_reducible first | exact HI580.out | apply IsS65.alloc | apply IsS65.drewN | apply IsS65.drew | apply IsS65.set_1 | refine IsS65.far ?_ NB580_577.out _) | exact HI580.out))) : g580 ≠ gb589)); have n10_ := Aside0.mk ((by rw [hg]; exact Nat.ne_of_gt (IsS65.lt (show IsS65 w _ g580 t578 t588 from by repeat (first | (with_reducible first | exact HI580.out | apply IsS65.alloc | apply IsS65.drewN | apply IsS65.drew | apply IsS65.set_1 | refine IsS65.far ?_ NB580_577.out _) | exact HI580.out))) : gb589 ≠ g580)); clear HO585; clear BK577; clear HI580; clear HB; have HO585 := n0_; have BK577 := n1_; have HI580 := n2_; have HB := n3_; have BK589 := n4_; have GW589 := n5_; have GE589 := n6_; have NB577_589 := n7_; have NB589_577 := n8_; have NB580_589 := n9_; have NB589_580 := n10_; clear n0_ n1_ n2_ n3_ n4_ n5_ n6_ n7_ n8_ n9_ n10_; clear hb hbox hg; have hnb28 := NB589_577.out; have hnc28 := NB577_589.out; have hnb29 := NB589_580.out; have hnc29 := NB580_589.out; have hcz30_0 : w27.cell? ⟨gb589, 0, none⟩ = some (.int .i64 0) := (blk_cell BK589.out 0).trans rfl; have hcz30_1 : w27.cell? ⟨gb589, 1, none⟩ = some (.int .i64 0) := (blk_cell BK589.out 1).trans rfl; have hcz30_2 : w27.cell? ⟨gb589, 2, none⟩ = some (.slice none 0 0) := (blk_cell BK589.out 2).trans rfl; have hfz30_0 := blk_frozen BK589.out 0; have hfz30_1 := blk_frozen BK589.out 1; have hfz30_2 := blk_frozen BK589.out 2; obtain ⟨Ao31, co31, eo31⟩ := Kd.R_slice HO585.out; subst eo31) | (go_at_call 61; (with_reducible refine (spec_l21Rd_pick.calls k g580 t578 t588 4 t590 t591 w _ ?side1 ?side2 A5.out).mono ?_); (case side1 => repeat (first | (with_reducible first | exact HI580.out | apply IsS65.alloc | apply IsS65.drewN | apply IsS65.drew | apply IsS65.set_1 | refine IsS65.far ?_ NB580_577.out _ | refine IsS65.far ?_ NB580_589.out _) | exact HI580.out)); (case side2 => repeat (first | (with_reducible first | exact HB.out | apply below_alloc | apply pw_below_drewN | apply below_drew1 | refine below_set ?_ (IsS65.ge HI580.out) | refine below_set ?_ GE577.out | refine below_set ?_ GE589.out) | exact HB.out)); rintro e w32 ⟨rfl, hi, hb, hk⟩; have n0_ := Aside0.mk (KeepBut.blk hk (g' := gb577) (o := .cells #[.int .i64 0, .int .i64 0, .slice none 0 0] 25 (0, 0)) (by (with_reducible repeat (first | refine blk_drewN ?_ _ | refine blk_drew ?_ | refine blk_alloc ?_ _)); refine blk_far ?_ NB577_589.out _; (with_reducible repeat (first | refine blk_drewN ?_ _ | refine blk_drew ?_ | refine blk_alloc ?_ _)); refine blk_far ?_ NB577_589.out _; (with_reducible repeat (first | refine blk_drewN ?_ _ | refine blk_drew ?_ | refine blk_alloc ?_ _)); refine blk_far ?_ NB577_589.out _; (with_reducible repeat (first | refine blk_drewN ?_ _ | refine blk_drew ?_ | refine blk_alloc ?_ _)); exact BK577.out) NB577_580.out (by simp)); have n1_ := Aside0.mk (Kd.R_mono (Kd.R_keep (IsS65.apart (show IsS65 w _ g580 t578 t588 from by repeat (first | (with_reducible first | exact HI580.out | apply IsS65.alloc | apply IsS65.drewN | apply IsS65.drew | apply IsS65.set_1 | refine IsS65.far ?_ NB580_577.out _ | refine IsS65.far ?_ NB580_589.out _) | exact HI580.out)) (by (with_reducible repeat (first | apply Kd.R_alloc | apply Kd.R_drewN | apply Kd.R_drew)); exact (Kd.R_mono (Kd.R_far (p := ⟨gb589, 2, none⟩) (Kd.R_far (p := ⟨gb589, 1, none⟩) (Kd.R_far (p := ⟨gb589, 0, none⟩) (Kd.R_types HO585.out BK589.out (by decide)) (fun _ hk => hk.2) (.int .i64 t581)) (fun _ hk => hk.2) (.int .i64 t582)) (fun _ hk => hk.2) (.slice Ao31 t583.length co31)) (fun _ h_ => h_.1))) (by decide)) hk (fun _ h => h.2)) (fun _ h => h.1)); have n2_ := Aside0.mk (KeepBut.blk hk (g' := gb589) (o := .cells #[.int .i64 t581, .int .i64 t582, .slice Ao31 t583.length co31] 25 (0, 0)) (by (with_reducible repeat (first | refine blk_drewN ?_ _ | refine blk_drew ?_ | refine blk_alloc ?_ _)); refine blk_put (cs := #[.int .i64 t581, .int .i64 t582, .slice none 0 0]) ?_ 2 _ rfl; (with_reducible repeat (first | refine blk_drewN ?_ _ | refine blk_drew ?_ | refine blk_alloc ?_ _)); refine blk_put (cs := #[.int .i64 t581, .int .i64 0, .slice none 0 0]) ?_ 1 _ rfl; (with_reducible repeat (first | refine blk_drewN ?_ _ | refine blk_drew ?_ | refine blk_alloc ?_ _)); refine blk_put (cs := #[.int .i64 0, .int .i64 0, .slice none 0 0]) ?_ 0 _ rfl; (with_reducible repeat (first | refine blk_drewN ?_ _ | refine blk_drew ?_ | refine blk_alloc ?_ _)); exact BK589.out) NB589_580.out (by simp)); have n3_ := Aside0.mk (hb); have n4_ := Aside0.mk (hi); clear BK577; clear HO585; clear BK589; clear HB; clear HI580; have BK577 := n0_; have HO585 := n1_; have BK589 := n2_; have HB := n3_; have HI580 := n4_; clear n0_ n1_ n2_ n3_ n4_; (try clear hb); (try clear hb2); (try clear hk); (try clear hi); have hcz33_0 : w32.cell? ⟨gb589, 0, none⟩ = some (.int .i64 t581) := (blk_cell BK589.out 0).trans rfl; have hcz33_1 : w32.cell? ⟨gb589, 1, none⟩ = some (.int .i64 t582) := (blk_cell BK589.out 1).trans rfl; have hcz33_2 : w32.cell? ⟨gb589, 2, none⟩ = some (.slice Ao31 t583.length co31) := (blk_cell BK589.out 2).trans rfl; have hfz33_0 := blk_frozen BK589.out 0; have hfz33_1 := blk_frozen BK589.out 1; have hfz33_2 := blk_frozen BK589.out 2; have hnb34 := NB577_580.out; have hnc34 := NB580_577.out; have hcz35_0 : w32.cell? ⟨gb577, 0, none⟩ = some (.int .i64 0) := (blk_cell BK577.out 0).trans rfl; have hcz35_1 : w32.cell? ⟨gb577, 1, none⟩ = some (.int .i64 0) := (blk_cell BK577.out 1).trans rfl; have hcz35_2 : w32.cell? ⟨gb577, 2, none⟩ = some (.slice none 0 0) := (blk_cell BK577.out 2).trans rfl; have hfz35_0 := blk_frozen BK577.out 0; have hfz35_1 := blk_frozen BK577.out 1; have hfz35_2 := blk_frozen BK577.out 2))
   refine bodyPost_ret (results_ct rfl _ _ gb577 25 #[.int .i64 t581, .int .i64 t582, .slice Ao31 t583.length co31] (0, 0) _ rfl (by (with_reducible repeat (first | refine blk_drewN ?_ _ | refine blk_drew ?_ | refine blk_alloc ?_ _)); refine blk_put (cs := #[.int .i64 t581, .int .i64 t582, .slice none 0 0]) ?_ 2 _ rfl; (with_reducible repeat (first | refine blk_drewN ?_ _ | refine blk_drew ?_ | refine blk_alloc ?_ _)); refine blk_put (cs := #[.int .i64 t581, .int .i64 0, .slice none 0 0]) ?_ 1 _ rfl; (with_reducible repeat (first | refine blk_drewN ?_ _ | refine blk_drew ?_ | refine blk_alloc ?_ _)); refine blk_put (cs := #[.int .i64 0, .int .i64 0, .slice none 0 0]) ?_ 0 _ rfl; (with_reducible repeat (first | refine blk_drewN ?_ _ | refine blk_drew ?_ | refine blk_alloc ?_ _)); exact BK577.out) Try.underlying25 rfl (by kernel_rfl)) rfl ?_
   exact ⟨_, by first | rfl | (simp [errW_none, errW_some] <;> rfl) | (simp [*, errW_none, errW_some] <;> rfl), by (with_reducible repeat (first | apply Kd.R_alloc | apply Kd.R_drewN | apply Kd.R_drew)); exact Kd.R_mono (Kd.R_far (p := ⟨gb577, 2, none⟩) (Kd.R_far (p := ⟨gb577, 1, none⟩) (Kd.R_far (p := ⟨gb577, 0, none⟩) (Kd.R_types HO585.out BK577.out (by decide)) (fun _ hk => hk.2) (.int .i64 t581)) (fun _ hk => hk.2) (.int .i64 t582)) (fun _ hk => hk.2) (.slice Ao31 t583.length co31)) (fun _ hk => trivial), by repeat (first | (with_reducible first | exact HB.out | apply below_alloc | apply pw_below_drewN | apply below_drew1 | refine below_set ?_ (IsS65.ge HI580.out) | refine below_set ?_ GE577.out | refine below_set ?_ GE589.out) | exact HB.out)⟩
 ·rw [if_neg c4] at H
  have c4b0 : decide (0 < (t583.length : Int)) = false := decide_eq_false c4
  have c4b1 : decide (0 < t583.length) = false := decide_eq_false (by omega)
  clear c4
  simp only [Option.some.injEq, Prod.mk.injEq] at H
  obtain ⟨rfl, rfl, rfl, rfl⟩ := H
  go_enter Try.func36, Try.ntmps36
  go_wp2_with (first | ((with_reducible refine gate_dst (N := 2) rfl ?_); refine box_event ?hg (N := 2) ?hd (cs := #[.int .i64 0, .int .i64 0, .slice none 0 0]) (t := 25) ?hr ?_; (case hd => rfl); (case hg => rfl); (case hr => first | (go_simp; done) | (go_simp; rfl)); intro gb577 hg w36 hbox hb; have n0_ := Aside0.mk (below_step (by repeat (first | (with_reducible first | exact HB.out | apply below_alloc | apply pw_below_drewN | apply below_drew1) | exact HB.out)) hb); have n1_ := Aside0.mk (hbox); have n2_ := Aside0.mk ((by rw [hg]; exact (below_size (by repeat (first | (with_reducible first | exact HB.out | apply below_alloc | apply pw_below_drewN | apply below_drew1) | exact HB.out))) : w.heap.size ≤ gb577)); have n3_ := Aside0.mk ((by rw [hg]; exact (below_size (by repeat (first | (with_reducible first | exact HB.out | apply below_alloc | apply pw_below_drewN | apply below_drew1) | exact HB.out))) : w.heap.size ≤ gb577)); clear HB; have HB := n0_; have BK577 := n1_; have GW577 := n2_; have GE577 := n3_; clear n0_ n1_ n2_ n3_; clear hb hbox hg) | ((with_reducible refine gate_callee (f := 41) rfl ?_); refine goesL_ (some 9) rfl rfl Try.func41 (by kernel_rfl) rfl #[.slice A0 l0.length c0] rfl (by (try simp only [List.map_toArray, List.map_cons, List.map_nil]); first | done | rfl | (simp only [List.length_drop, List.length_take]; rfl)) ?_; (with_reducible refine (spec_l21Open.calls _ _ l0 t578 t579 w _ ?side1 ?side2 ?side3 A2.out).mono ?_); (case side1 => repeat (first | (with_reducible first | exact HB.out | apply below_alloc | apply pw_below_drewN | apply below_drew1 | refine below_set ?_ GE577.out) | exact HB.out)); (case side2 => exact HR0.out); (case side3 => exact HC0.out); rintro e w37 ⟨g580, rfl, hi, hb, hb2⟩; refine ⟨_, rfl, ?_⟩; have n0_ := Aside0.mk (blk_below (g := gb577) (o := .cells #[.int .i64 0, .int .i64 0, .slice none 0 0] 25 (0, 0)) (by (with_reducible repeat (first | refine blk_drewN ?_ _ | refine blk_drew ?_ | refine blk_alloc ?_ _)); exact BK577.out) hb2); have n1_ := Aside0.mk (hb); have n2_ := Aside0.mk (hi); have n3_ := Aside0.mk (IsS65.ne_blk hi (blk_below (g := gb577) (o := .cells #[.int .i64 0, .int .i64 0, .slice none 0 0] 25 (0, 0)) (by (with_reducible repeat (first | refine blk_drewN ?_ _ | refine blk_drew ?_ | refine blk_alloc ?_ _)); exact BK577.out) hb2) (by decide)); have n4_ := Aside0.mk (Ne.symm (IsS65.ne_blk hi (blk_below (g := gb577) (o := .cells #[.int .i64 0, .int .i64 0, .slice none 0 0] 25 (0, 0)) (by (with_reducible repeat (first | refine blk_drewN ?_ _ | refine blk_drew ?_ | refine blk_alloc ?_ _)); exact BK577.out) hb2) (by decide))); clear BK577; clear HB; have BK577 := n0_; have HB := n1_; have HI580 := n2_; have NB580_577 := n3_; have NB577_580 := n4_; clear n0_ n1_ n2_ n3_ n4_; (try clear hb); (try clear hb2); (try clear hk); (try clear hi)) | ((with_reducible refine gate_callee (f := 59) rfl ?_); refine goesL_ (some 12) rfl rfl Try.func59 (by kernel_rfl) rfl #[.pointer (some ⟨g580, 0, none⟩)] rfl (by (try simp only [List.map_toArray, List.map_cons, List.map_nil]); first | done | rfl | (simp only [List.length_drop, List.length_take]; rfl)) ?_; (with_reducible refine (spec_l17Two.calls k g580 t578 t579 t581 t582 t583 t586 t587 t588 w _ ?side1 ?side2 A3.out).mono ?_); (case side1 => repeat (first | (with_reducible first | exact HI580.out | apply IsS65.alloc | apply IsS65.drewN | apply IsS65.drew | apply IsS65.set_1 | refine IsS65.far ?_ NB580_577.out _) | exact HI580.out)); (case side2 => repeat (first | (with_reducible first | exact HB.out | apply below_alloc | apply pw_below_drewN | apply below_drew1 | refine below_set ?_ (IsS65.ge HI580.out) | refine below_set ?_ GE577.out) | exact HB.out)); rintro e w38 ⟨v584, rfl, ho0, hi, hb, hk⟩; refine ⟨_, rfl, ?_⟩; have n0_ := Aside0.mk (KeepBut.blk hk (g' := gb577) (o := .cells #[.int .i64 0, .int .i64 0, .slice none 0 0] 25 (0, 0)) (by (with_reducible repeat (first | refine blk_drewN ?_ _ | refine blk_drew ?_ | refine blk_alloc ?_ _)); exact BK577.out) NB577_580.out (by simp)); have n1_ := Aside0.mk (Kd.R_lower ho0 (below_size (by repeat (first | (with_reducible first | exact HB.out | apply below_alloc | apply pw_below_drewN | apply below_drew1 | refine below_set ?_ (IsS65.ge HI580.out) | refine below_set ?_ GE577.out) | exact HB.out)))); have n2_ := Aside0.mk (hb); have n3_ := Aside0.mk (hi); clear BK577; clear HB; clear HI580; have BK577 := n0_; have HO585 := n1_; have HB := n2_; have HI580 := n3_; clear n0_ n1_ n2_ n3_; (try clear hb); (try clear hb2); (try clear hk); (try clear hi); (try clear ho0)) | ((with_reducible refine gate_dst (N := 5) rfl ?_); refine box_event ?hg (N := 5) ?hd (cs := #[.int .i64 0, .int .i64 0, .slice none 0 0]) (t := 25) ?hr ?_; (case hd => rfl); (case hg => rfl); (case hr => first | (go_simp; done) | (go_simp; rfl)); intro gb589 hg w39 hbox hb; have n0_ := Aside0.mk (Kd.R_below (by (with_reducible repeat (first | apply Kd.R_alloc | apply Kd.R_drewN | apply Kd.R_drew)); exact HO585.out) hb); have n1_ := Aside0.mk (blk_below (g := gb577) (o := .cells #[.int .i64 0, .int .i64 0, .slice none 0 0] 25 (0, 0)) (by (with_reducible repeat (first | refine blk_drewN ?_ _ | refine blk_drew ?_ | refine blk_alloc ?_ _)); exact BK577.out) hb); have n2_ := Aside0.mk (IsS65.below (by repeat (first | (with_reducible first | exact HI580.out | apply IsS65.alloc | apply IsS65.drewN | apply IsS65.drew | apply IsS65.set_1 | refine IsS65.far ?_ NB580_577.out _) | exact HI580.out)) hb); have n3_ := Aside0.mk (below_step (by repeat (first | (with_reducible first | exact HB.out | apply below_alloc | apply pw_below_drewN | apply below_drew1 | refine below_set ?_ (IsS65.ge HI580.out) | refine below_set ?_ GE577.out) | exact HB.out)) hb); have n4_ := Aside0.mk (hbox); have n5_ := Aside0.mk ((by rw [hg]; exact (below_size (by repeat (first | (with_reducible first | exact HB.out | apply below_alloc | apply pw_below_drewN | apply below_drew1 | refine below_set ?_ (IsS65.ge HI580.out) | refine below_set ?_ GE577.out) | exact HB.out))) : w.heap.size ≤ gb589)); have n6_ := Aside0.mk ((by rw [hg]; exact (below_size (by repeat (first | (with_reducible first | exact HB.out | apply below_alloc | apply pw_below_drewN | apply below_drew1 | refine below_set ?_ (IsS65.ge HI580.out) | refine below_set ?_ GE577.out) | exact HB.out))) : w.heap.size ≤ gb589)); have n7_ := Aside0.mk ((by rw [hg]; exact Nat.ne_of_lt (blk_lt (g := gb577) (o := .cells #[.int .i64 0, .int .i64 0, .slice none 0 0] 25 (0, 0)) (by (with_reducible repeat (first | refine blk_drewN ?_ _ | refine blk_drew ?_ | refine blk_alloc ?_ _)); exact BK577.out)) : gb577 ≠ gb589)); have n8_ := Aside0.mk ((by rw [hg]; exact Nat.ne_of_gt (blk_lt (g := gb577) (o := .cells #[.int .i64 0, .int .i64 0, .slice none 0 0] 25 (0, 0)) (by (with_reducible repeat (first | refine blk_drewN ?_ _ | refine blk_drew ?_ | refine blk_alloc ?_ _)); exact BK577.out)) : gb589 ≠ gb577)); have n9_ := Aside0.mk ((by rw [hg]; exact Nat.ne_of_lt (IsS65.lt (show IsS65 w _ g580 t578 t588 from by repeat (first | (with_reducible first | exact HI580.out | apply IsS65.alloc | apply IsS65.drewN | apply IsS65.drew | apply IsS65.set_1 | refine IsS65.far ?_ NB580_577.out _) | exact HI580.out))) : g580 ≠ gb589)); have n10_ := Aside0.mk ((by rw [hg]; exact Nat.ne_of_gt (IsS65.lt (show IsS65 w _ g580 t578 t588 from by repeat (first | (with_reducible first | exact HI580.out | apply IsS65.alloc | apply IsS65.drewN | apply IsS65.drew | apply IsS65.set_1 | refine IsS65.far ?_ NB580_577.out _) | exact HI580.out))) : gb589 ≠ g580)); clear HO585; clear BK577; clear HI580; clear HB; have HO585 := n0_; have BK577 := n1_; have HI580 := n2_; have HB := n3_; have BK589 := n4_; have GW589 := n5_; have GE589 := n6_; have NB577_589 := n7_; have NB589_577 := n8_; have NB580_589 := n9_; have NB589_580 := n10_; clear n0_ n1_ n2_ n3_ n4_ n5_ n6_ n7_ n8_ n9_ n10_; clear hb hbox hg; have hnb40 := NB589_577.out; have hnc40 := NB577_589.out; have hnb41 := NB589_580.out; have hnc41 := NB580_589.out; have hcz42_0 : w39.cell? ⟨gb589, 0, none⟩ = some (.int .i64 0) := (blk_cell BK589.out 0).trans rfl; have hcz42_1 : w39.cell? ⟨gb589, 1, none⟩ = some (.int .i64 0) := (blk_cell BK589.out 1).trans rfl; have hcz42_2 : w39.cell? ⟨gb589, 2, none⟩ = some (.slice none 0 0) := (blk_cell BK589.out 2).trans rfl; have hfz42_0 := blk_frozen BK589.out 0; have hfz42_1 := blk_frozen BK589.out 1; have hfz42_2 := blk_frozen BK589.out 2; obtain ⟨Ao43, co43, eo43⟩ := Kd.R_slice HO585.out; subst eo43; have hnb44 := NB577_580.out; have hnc44 := NB580_577.out; have hcz45_0 : w39.cell? ⟨gb577, 0, none⟩ = some (.int .i64 0) := (blk_cell BK577.out 0).trans rfl; have hcz45_1 : w39.cell? ⟨gb577, 1, none⟩ = some (.int .i64 0) := (blk_cell BK577.out 1).trans rfl; have hcz45_2 : w39.cell? ⟨gb577, 2, none⟩ = some (.slice none 0 0) := (blk_cell BK577.out 2).trans rfl; have hfz45_0 := blk_frozen BK577.out 0; have hfz45_1 := blk_frozen BK577.out 1; have hfz45_2 := blk_frozen BK577.out 2))
  refine bodyPost_ret (results_ct rfl _ _ gb577 25 #[.int .i64 t581, .int .i64 t582, .slice Ao43 t583.length co43] (0, 0) _ rfl (by (with_reducible repeat (first | refine blk_drewN ?_ _ | refine blk_drew ?_ | refine blk_alloc ?_ _)); refine blk_put (cs := #[.int .i64 t581, .int .i64 t582, .slice none 0 0]) ?_ 2 _ rfl; (with_reducible repeat (first | refine blk_drewN ?_ _ | refine blk_drew ?_ | refine blk_alloc ?_ _)); refine blk_put (cs := #[.int .i64 t581, .int .i64 0, .slice none 0 0]) ?_ 1 _ rfl; (with_reducible repeat (first | refine blk_drewN ?_ _ | refine blk_drew ?_ | refine blk_alloc ?_ _)); refine blk_put (cs := #[.int .i64 0, .int .i64 0, .slice none 0 0]) ?_ 0 _ rfl; (with_reducible repeat (first | refine blk_drewN ?_ _ | refine blk_drew ?_ | refine blk_alloc ?_ _)); refine blk_far ?_ NB577_589.out _; (with_reducible repeat (first | refine blk_drewN ?_ _ | refine blk_drew ?_ | refine blk_alloc ?_ _)); refine blk_far ?_ NB577_589.out _; (with_reducible repeat (first | refine blk_drewN ?_ _ | refine blk_drew ?_ | refine blk_alloc ?_ _)); refine blk_far ?_ NB577_589.out _; (with_reducible repeat (first | refine blk_drewN ?_ _ | refine blk_drew ?_ | refine blk_alloc ?_ _)); exact BK577.out) Try.underlying25 rfl (by kernel_rfl)) rfl ?_
  exact ⟨_, by first | rfl | (simp [errW_none, errW_some] <;> rfl) | (simp [*, errW_none, errW_some] <;> rfl), by (with_reducible repeat (first | apply Kd.R_alloc | apply Kd.R_drewN | apply Kd.R_drew)); exact Kd.R_mono (Kd.R_far (p := ⟨gb577, 2, none⟩) (Kd.R_far (p := ⟨gb577, 1, none⟩) (Kd.R_far (p := ⟨gb577, 0, none⟩) (Kd.R_far (p := ⟨gb589, 2, none⟩) (Kd.R_far (p := ⟨gb589, 1, none⟩) (Kd.R_far (p := ⟨gb589, 0, none⟩) (Kd.R_types (Kd.R_types HO585.out BK589.out (by decide)) BK577.out (by decide)) (fun _ hk => hk.1.2) (.int .i64 t581)) (fun _ hk => hk.1.2) (.int .i64 t582)) (fun _ hk => hk.1.2) (.slice Ao43 t583.length co43)) (fun _ hk => hk.2) (.int .i64 t581)) (fun _ hk => hk.2) (.int .i64 t582)) (fun _ hk => hk.2) (.slice Ao43 t583.length co43)) (fun _ hk => trivial), by repeat (first | (with_reducible first | exact HB.out | apply below_alloc | apply pw_below_drewN | apply below_drew1 | refine below_set ?_ (IsS65.ge HI580.out) | refine below_set ?_ GE577.out | refine below_set ?_ GE589.out) | exact HB.out)⟩

/-! ### laws_FnMend: function 10 -/
mutual
def laws_FnMend.j0 : Nat → Int → Bool → Bool → Bool → Int → Int → List Int → Int → Int → List Int → Int → Int → List Int → Option (Bool)
 | 0, _, _, _, _, _, _, _, _, _, _, _, _, _ => none
 | k + 1, x4, x6, x8, x61, x602000, x602001, x602002, x609000, x609001, x609002, x616000, x616001, x616002 => if x61 = true then (if (x6 == x8) = true then (if x609000 = x616000 then (if x609001 = x616001 then ((laws_wnInts.f k x609002 x616002).bind fun t617 => (some t617)) else (some false)) else (some false)) else (some false)) else (laws_FnMend.l0 k x4 x602000 0 x602000 x602001 x602002 x609000 x609001 x609002)
def laws_FnMend.l0 : Nat → Int → Int → Int → Int → Int → List Int → Int → Int → List Int → Option (Bool)
 | 0, _, _, _, _, _, _, _, _, _ => none
 | k + 1, x4, x87, x88, x602000, x602001, x602002, x609000, x609001, x609002 => if x88 < x87 then ((impl_ReachIn.f k x609000 x609001 x609002 x88).bind fun t619 => ((impl_ReachIn.f k x602000 x602001 x602002 x88).bind fun t622 => (laws_FnMend.l1 k x4 t619 x87 x88 t622 (t622.length : Int) 0 x602000 x602001 x602002 x609000 x609001 x609002))) else (if (x609002.length : Int) = (wrap64 ((x602002.length : Int) - 1)) then ((laws_wnHas.f k x609002 x4).bind fun t618 => (some (!t618))) else (some false))
def laws_FnMend.l1 : Nat → Int → List Int → Int → Int → List Int → Int → Int → Int → Int → List Int → Int → Int → List Int → Option (Bool)
 | 0, _, _, _, _, _, _, _, _, _, _, _, _, _ => none
 | k + 1, x4, x10, x87, x88, x96, x97, x98, x602000, x602001, x602002, x609000, x609001, x609002 => if x98 < x97 then (if 0 ≤ x98 then (if x98 < (x96.length : Int) then ((laws_wnHas.f k x10 (rd x96 x98)).bind fun t626 => (if t626 = true then (laws_FnMend.l1 k x4 x10 x87 x88 x96 x97 (wrap64 (x98 + 1)) x602000 x602001 x602002 x609000 x609001 x609002) else (some false))) else (none)) else (none)) else (laws_FnMend.l0 k x4 x87 (wrap64 (x88 + 1)) x602000 x602001 x602002 x609000 x609001 x609002)
end
def laws_FnMend.f (k : Nat) (l0 : List Int) : Option (Bool) := if (l0.length : Int) > 1048576 then (some true) else ((spec_DrawMendLink.f k l0).bind fun bt595 => ((impl_MendLink.f k bt595.1 bt595.2.1 bt595.2.2.1 bt595.2.2.2).bind fun bt602 => ((spec_MendLink.f k bt595.1 bt595.2.1 bt595.2.2.1 bt595.2.2.2).bind fun bt609 => (if (bt602.2.2.2 != bt609.2.2.2) = true then (laws_FnMend.j0 k bt595.2.2.2 bt602.2.2.2 bt609.2.2.2 true bt595.1 bt595.2.1 bt595.2.2.1 bt602.1 bt602.2.1 bt602.2.2.1 bt609.1 bt609.2.1 bt609.2.2.1) else (if bt602.1 = bt609.1 then (if bt602.2.1 = bt609.2.1 then ((laws_wnInts.f k bt602.2.2.1 bt609.2.2.1).bind fun t616 => (if t616 = true then (laws_FnMend.j0 k bt595.2.2.2 bt602.2.2.2 bt609.2.2.2 (!bt602.2.2.2) bt595.1 bt595.2.1 bt595.2.2.1 bt602.1 bt602.2.1 bt602.2.2.1 bt609.1 bt609.2.1 bt609.2.2.1) else (laws_FnMend.j0 k bt595.2.2.2 bt602.2.2.2 bt609.2.2.2 true bt595.1 bt595.2.1 bt595.2.2.1 bt602.1 bt602.2.1 bt602.2.2.1 bt609.1 bt609.2.1 bt609.2.2.1))) else (laws_FnMend.j0 k bt595.2.2.2 bt602.2.2.2 bt609.2.2.2 true bt595.1 bt595.2.1 bt595.2.2.1 bt602.1 bt602.2.1 bt602.2.2.1 bt609.1 bt609.2.1 bt609.2.2.1)) else (laws_FnMend.j0 k bt595.2.2.2 bt602.2.2.2 bt609.2.2.2 true bt595.1 bt595.2.1 bt595.2.2.1 bt602.1 bt602.2.1 bt602.2.2.1 bt609.1 bt609.2.1 bt609.2.2.1))))))
theorem laws_FnMend.mono_l : ∀ k, (∀ y0 y1 y2 y3 y4 y5 y6 y7 y8 y9 y10 y11 y12, LeO (laws_FnMend.j0 k y0 y1 y2 y3 y4 y5 y6 y7 y8 y9 y10 y11 y12) (laws_FnMend.j0 (k + 1) y0 y1 y2 y3 y4 y5 y6 y7 y8 y9 y10 y11 y12)) ∧ (∀ y0 y1 y2 y3 y4 y5 y6 y7 y8, LeO (laws_FnMend.l0 k y0 y1 y2 y3 y4 y5 y6 y7 y8) (laws_FnMend.l0 (k + 1) y0 y1 y2 y3 y4 y5 y6 y7 y8)) ∧ (∀ y0 y1 y2 y3 y4 y5 y6 y7 y8 y9 y10 y11 y12, LeO (laws_FnMend.l1 k y0 y1 y2 y3 y4 y5 y6 y7 y8 y9 y10 y11 y12) (laws_FnMend.l1 (k + 1) y0 y1 y2 y3 y4 y5 y6 y7 y8 y9 y10 y11 y12))
 | 0 => ⟨fun _ _ _ _ _ _ _ _ _ _ _ _ _ r h => by simp [laws_FnMend.j0] at h, fun _ _ _ _ _ _ _ _ _ r h => by simp [laws_FnMend.l0] at h, fun _ _ _ _ _ _ _ _ _ _ _ _ _ r h => by simp [laws_FnMend.l1] at h⟩
 | k + 1 => by
  obtain ⟨ih0, ih1, ih2⟩ := laws_FnMend.mono_l k
  refine ⟨?_, ?_, ?_⟩
  ·intro y0 y1 y2 y3 y4 y5 y6 y7 y8 y9 y10 y11 y12
   unfold laws_FnMend.j0
   repeat' first
   | (with_reducible exact ih0 _ _ _ _ _ _ _ _ _ _ _ _ _)
   | (with_reducible exact ih1 _ _ _ _ _ _ _ _ _)
   | (with_reducible exact ih2 _ _ _ _ _ _ _ _ _ _ _ _ _)
   | (with_reducible exact impl_MendLink.mono _ _ _ _ _)
   | (with_reducible exact impl_ReachIn.mono _ _ _ _ _)
   | (with_reducible exact laws_wnHas.mono _ _ _)
   | (with_reducible exact laws_wnInts.mono _ _ _)
   | (with_reducible exact spec_DrawMendLink.mono _ _)
   | (with_reducible exact spec_MendLink.mono _ _ _ _ _)
   | (with_reducible exact LeO.refl _)
   | (with_reducible exact LeO.none _)
   | (with_reducible refine LeO.ite ?_ ?_)
   | (with_reducible refine LeO.bind ?_ (fun _ => ?_))
   | exact ih0 _ _ _ _ _ _ _ _ _ _ _ _ _
   | exact ih1 _ _ _ _ _ _ _ _ _
   | exact ih2 _ _ _ _ _ _ _ _ _ _ _ _ _
   | exact impl_MendLink.mono _ _ _ _ _
   | exact impl_ReachIn.mono _ _ _ _ _
   | exact laws_wnHas.mono _ _ _
   | exact laws_wnInts.mono _ _ _
   | exact spec_DrawMendLink.mono _ _
   | exact spec_MendLink.mono _ _ _ _ _
   | exact LeO.none _
   | refine LeO.ite ?_ ?_
   | refine LeO.bind ?_ (fun _ => ?_)
  ·intro y0 y1 y2 y3 y4 y5 y6 y7 y8
   unfold laws_FnMend.l0
   repeat' first
   | (with_reducible exact ih0 _ _ _ _ _ _ _ _ _ _ _ _ _)
   | (with_reducible exact ih1 _ _ _ _ _ _ _ _ _)
   | (with_reducible exact ih2 _ _ _ _ _ _ _ _ _ _ _ _ _)
   | (with_reducible exact impl_MendLink.mono _ _ _ _ _)
   | (with_reducible exact impl_ReachIn.mono _ _ _ _ _)
   | (with_reducible exact laws_wnHas.mono _ _ _)
   | (with_reducible exact laws_wnInts.mono _ _ _)
   | (with_reducible exact spec_DrawMendLink.mono _ _)
   | (with_reducible exact spec_MendLink.mono _ _ _ _ _)
   | (with_reducible exact LeO.refl _)
   | (with_reducible exact LeO.none _)
   | (with_reducible refine LeO.ite ?_ ?_)
   | (with_reducible refine LeO.bind ?_ (fun _ => ?_))
   | exact ih0 _ _ _ _ _ _ _ _ _ _ _ _ _
   | exact ih1 _ _ _ _ _ _ _ _ _
   | exact ih2 _ _ _ _ _ _ _ _ _ _ _ _ _
   | exact impl_MendLink.mono _ _ _ _ _
   | exact impl_ReachIn.mono _ _ _ _ _
   | exact laws_wnHas.mono _ _ _
   | exact laws_wnInts.mono _ _ _
   | exact spec_DrawMendLink.mono _ _
   | exact spec_MendLink.mono _ _ _ _ _
   | exact LeO.none _
   | refine LeO.ite ?_ ?_
   | refine LeO.bind ?_ (fun _ => ?_)
  ·intro y0 y1 y2 y3 y4 y5 y6 y7 y8 y9 y10 y11 y12
   unfold laws_FnMend.l1
   repeat' first
   | (with_reducible exact ih0 _ _ _ _ _ _ _ _ _ _ _ _ _)
   | (with_reducible exact ih1 _ _ _ _ _ _ _ _ _)
   | (with_reducible exact ih2 _ _ _ _ _ _ _ _ _ _ _ _ _)
   | (with_reducible exact impl_MendLink.mono _ _ _ _ _)
   | (with_reducible exact impl_ReachIn.mono _ _ _ _ _)
   | (with_reducible exact laws_wnHas.mono _ _ _)
   | (with_reducible exact laws_wnInts.mono _ _ _)
   | (with_reducible exact spec_DrawMendLink.mono _ _)
   | (with_reducible exact spec_MendLink.mono _ _ _ _ _)
   | (with_reducible exact LeO.refl _)
   | (with_reducible exact LeO.none _)
   | (with_reducible refine LeO.ite ?_ ?_)
   | (with_reducible refine LeO.bind ?_ (fun _ => ?_))
   | exact ih0 _ _ _ _ _ _ _ _ _ _ _ _ _
   | exact ih1 _ _ _ _ _ _ _ _ _
   | exact ih2 _ _ _ _ _ _ _ _ _ _ _ _ _
   | exact impl_MendLink.mono _ _ _ _ _
   | exact impl_ReachIn.mono _ _ _ _ _
   | exact laws_wnHas.mono _ _ _
   | exact laws_wnInts.mono _ _ _
   | exact spec_DrawMendLink.mono _ _
   | exact spec_MendLink.mono _ _ _ _ _
   | exact LeO.none _
   | refine LeO.ite ?_ ?_
   | refine LeO.bind ?_ (fun _ => ?_)
theorem laws_FnMend.mono : ∀ a0 k, LeO (laws_FnMend.f k a0) (laws_FnMend.f (k + 1) a0) := by
 intro a0 k
 obtain ⟨ih0, ih1, ih2⟩ := laws_FnMend.mono_l k
 unfold laws_FnMend.f
 repeat' first
   | (with_reducible exact ih0 _ _ _ _ _ _ _ _ _ _ _ _ _)
   | (with_reducible exact ih1 _ _ _ _ _ _ _ _ _)
   | (with_reducible exact ih2 _ _ _ _ _ _ _ _ _ _ _ _ _)
   | (with_reducible exact impl_MendLink.mono _ _ _ _ _)
   | (with_reducible exact impl_ReachIn.mono _ _ _ _ _)
   | (with_reducible exact laws_wnHas.mono _ _ _)
   | (with_reducible exact laws_wnInts.mono _ _ _)
   | (with_reducible exact spec_DrawMendLink.mono _ _)
   | (with_reducible exact spec_MendLink.mono _ _ _ _ _)
   | (with_reducible exact LeO.refl _)
   | (with_reducible exact LeO.none _)
   | (with_reducible refine LeO.ite ?_ ?_)
   | (with_reducible refine LeO.bind ?_ (fun _ => ?_))
   | exact ih0 _ _ _ _ _ _ _ _ _ _ _ _ _
   | exact ih1 _ _ _ _ _ _ _ _ _
   | exact ih2 _ _ _ _ _ _ _ _ _ _ _ _ _
   | exact impl_MendLink.mono _ _ _ _ _
   | exact impl_ReachIn.mono _ _ _ _ _
   | exact laws_wnHas.mono _ _ _
   | exact laws_wnInts.mono _ _ _
   | exact spec_DrawMendLink.mono _ _
   | exact spec_MendLink.mono _ _ _ _ _
   | exact LeO.none _
   | refine LeO.ite ?_ ?_
   | refine LeO.bind ?_ (fun _ => ?_)
set_option maxHeartbeats 8000000 in
set_option maxRecDepth 100000 in
theorem laws_FnMend.calls (k : Nat) (A0 : Option Addr) (c0 : Nat) (l0 : List Int) (r : Bool) (w : World) (hr0 : Kd.C (Kd.int .u8) w A0 l0.length l0) (hc0 : l0.length ≤ c0) (h : laws_FnMend.f k l0 = some r) :
  Calls Try.prog 10 #[.slice A0 l0.length c0] w fun e w' => e = .returned (.bool r) ∧ Below w.heap.size w w' := by
 have hu25 := Try.underlying25
 have HR0 := Aside0.mk hr0
 have HC0 := Aside0.mk hc0
 clear hr0 hc0
 have HB := Aside0.mk (Below.refl w.heap.size w)
 have H : (if (l0.length : Int) > 1048576 then (some true) else ((spec_DrawMendLink.f k l0).bind fun bt595 => ((impl_MendLink.f k bt595.1 bt595.2.1 bt595.2.2.1 bt595.2.2.2).bind fun bt602 => ((spec_MendLink.f k bt595.1 bt595.2.1 bt595.2.2.1 bt595.2.2.2).bind fun bt609 => (if (bt602.2.2.2 != bt609.2.2.2) = true then (laws_FnMend.j0 k bt595.2.2.2 bt602.2.2.2 bt609.2.2.2 true bt595.1 bt595.2.1 bt595.2.2.1 bt602.1 bt602.2.1 bt602.2.2.1 bt609.1 bt609.2.1 bt609.2.2.1) else (if bt602.1 = bt609.1 then (if bt602.2.1 = bt609.2.1 then ((laws_wnInts.f k bt602.2.2.1 bt609.2.2.1).bind fun t616 => (if t616 = true then (laws_FnMend.j0 k bt595.2.2.2 bt602.2.2.2 bt609.2.2.2 (!bt602.2.2.2) bt595.1 bt595.2.1 bt595.2.2.1 bt602.1 bt602.2.1 bt602.2.2.1 bt609.1 bt609.2.1 bt609.2.2.1) else (laws_FnMend.j0 k bt595.2.2.2 bt602.2.2.2 bt609.2.2.2 true bt595.1 bt595.2.1 bt595.2.2.1 bt602.1 bt602.2.1 bt602.2.2.1 bt609.1 bt609.2.1 bt609.2.2.1))) else (laws_FnMend.j0 k bt595.2.2.2 bt602.2.2.2 bt609.2.2.2 true bt595.1 bt595.2.1 bt595.2.2.1 bt602.1 bt602.2.1 bt602.2.2.1 bt609.1 bt609.2.1 bt609.2.2.1)) else (laws_FnMend.j0 k bt595.2.2.2 bt602.2.2.2 bt609.2.2.2 true bt595.1 bt595.2.1 bt595.2.2.1 bt602.1 bt602.2.1 bt602.2.2.1 bt609.1 bt609.2.1 bt609.2.2.1))))))) = some r := h
 clear h
 by_cases c2 : (l0.length : Int) > 1048576
 ·rw [if_pos c2] at H
  have c2b0 : decide (1048576 < (l0.length : Int)) = true := decide_eq_true c2
  have c2b1 : decide (1048576 < l0.length) = true := decide_eq_true (by omega)
  clear c2
  obtain rfl := Option.some.inj H
  go_enter Try.func10, Try.ntmps10
  go_wp2
  go_ret
  exact ⟨by first | rfl | (simp [errW_none, errW_some] <;> rfl) | (simp [*, errW_none, errW_some] <;> rfl), by repeat (first | (with_reducible first | exact HB.out | apply below_alloc | apply pw_below_drewN | apply below_drew1) | exact HB.out)⟩
 ·rw [if_neg c2] at H
  have c2b0 : decide (1048576 < (l0.length : Int)) = false := decide_eq_false c2
  have c2b1 : decide (1048576 < l0.length) = false := decide_eq_false (by omega)
  clear c2
  replace H := Option.bind_eq_some_iff.mp H
  obtain ⟨⟨t595, t596, t597, t600⟩, A30, H⟩ := H
  replace H : ((impl_MendLink.f k t595 t596 t597 t600).bind fun bt602 => ((spec_MendLink.f k t595 t596 t597 t600).bind fun bt609 => (if (bt602.2.2.2 != bt609.2.2.2) = true then (laws_FnMend.j0 k t600 bt602.2.2.2 bt609.2.2.2 true t595 t596 t597 bt602.1 bt602.2.1 bt602.2.2.1 bt609.1 bt609.2.1 bt609.2.2.1) else (if bt602.1 = bt609.1 then (if bt602.2.1 = bt609.2.1 then ((laws_wnInts.f k bt602.2.2.1 bt609.2.2.1).bind fun t616 => (if t616 = true then (laws_FnMend.j0 k t600 bt602.2.2.2 bt609.2.2.2 (!bt602.2.2.2) t595 t596 t597 bt602.1 bt602.2.1 bt602.2.2.1 bt609.1 bt609.2.1 bt609.2.2.1) else (laws_FnMend.j0 k t600 bt602.2.2.2 bt609.2.2.2 true t595 t596 t597 bt602.1 bt602.2.1 bt602.2.2.1 bt609.1 bt609.2.1 bt609.2.2.1))) else (laws_FnMend.j0 k t600 bt602.2.2.2 bt609.2.2.2 true t595 t596 t597 bt602.1 bt602.2.1 bt602.2.2.1 bt609.1 bt609.2.1 bt609.2.2.1)) else (laws_FnMend.j0 k t600 bt602.2.2.2 bt609.2.2.2 true t595 t596 t597 bt602.1 bt602.2.1 bt602.2.2.1 bt609.1 bt609.2.1 bt609.2.2.1))))) = some r := H
  have A3 := Aside0.mk A30
  clear A30
  replace H := Option.bind_eq_some_iff.mp H
  obtain ⟨⟨t602, t603, t604, t607⟩, A40, H⟩ := H
  replace H : ((spec_MendLink.f k t595 t596 t597 t600).bind fun bt609 => (if (t607 != bt609.2.2.2) = true then (laws_FnMend.j0 k t600 t607 bt609.2.2.2 true t595 t596 t597 t602 t603 t604 bt609.1 bt609.2.1 bt609.2.2.1) else (if t602 = bt609.1 then (if t603 = bt609.2.1 then ((laws_wnInts.f k t604 bt609.2.2.1).bind fun t616 => (if t616 = true then (laws_FnMend.j0 k t600 t607 bt609.2.2.2 (!t607) t595 t596 t597 t602 t603 t604 bt609.1 bt609.2.1 bt609.2.2.1) else (laws_FnMend.j0 k t600 t607 bt609.2.2.2 true t595 t596 t597 t602 t603 t604 bt609.1 bt609.2.1 bt609.2.2.1))) else (laws_FnMend.j0 k t600 t607 bt609.2.2.2 true t595 t596 t597 t602 t603 t604 bt609.1 bt609.2.1 bt609.2.2.1)) else (laws_FnMend.j0 k t600 t607 bt609.2.2.2 true t595 t596 t597 t602 t603 t604 bt609.1 bt609.2.1 bt609.2.2.1)))) = some r := H
  have A4 := Aside0.mk A40
  clear A40
  replace H := Option.bind_eq_some_iff.mp H
  obtain ⟨⟨t609, t610, t611, t614⟩, A50, H⟩ := H
  replace H : (if (t607 != t614) = true then (laws_FnMend.j0 k t600 t607 t614 true t595 t596 t597 t602 t603 t604 t609 t610 t611) else (if t602 = t609 then (if t603 = t610 then ((laws_wnInts.f k t604 t611).bind fun t616 => (if t616 = true then (laws_FnMend.j0 k t600 t607 t614 (!t607) t595 t596 t597 t602 t603 t604 t609 t610 t611) else (laws_FnMend.j0 k t600 t607 t614 true t595 t596 t597 t602 t603 t604 t609 t610 t611))) else (laws_FnMend.j0 k t600 t607 t614 true t595 t596 t597 t602 t603 t604 t609 t610 t611)) else (laws_FnMend.j0 k t600 t607 t614 true t595 t596 t597 t602 t603 t604 t609 t610 t611))) = some r := H
  have A5 := Aside0.mk A50
  clear A50
  have HC6 := Aside0.mk H
  clear H
  go_enter Try.func10, Try.ntmps10
  go_upto_region 6 with (first | ((with_reducible refine gate_callee (f := 36) rfl ?_); refine goesL_ (some 18) rfl rfl Try.func36 (by kernel_rfl) rfl #[.slice A0 l0.length c0] rfl (by (try simp only [List.map_toArray, List.map_cons, List.map_nil]); first | done | rfl | (simp only [List.length_drop, List.length_take]; rfl)) ?_; (with_reducible refine (spec_DrawMendLink.calls k _ _ l0 t595 t596 t597 t600 _ ?side1 ?side2 A3.out).mono ?_); (case side1 => repeat (first | exact HR0.out | (with_reducible refine Kd.C_alloc ?_ _) | (with_reducible refine Kd.C_drewN ?_ _) | (with_reducible refine Kd.C_drew ?_))); (case side2 => exact HC0.out); rintro e w7 ⟨v598, rfl, ho0, hb⟩; refine ⟨_, rfl, ?_⟩; have n0_ := Aside0.mk (Kd.R_lower ho0 (below_size (by repeat (first | (with_reducible first | exact HB.out | apply below_alloc | apply pw_below_drewN | apply below_drew1) | exact HB.out)))); have n1_ := Aside0.mk (below_step (by repeat (first | (with_reducible first | exact HB.out | apply below_alloc | apply pw_below_drewN | apply below_drew1) | exact HB.out)) hb); clear HB; have HO599 := n0_; have HB := n1_; clear n0_ n1_; (try clear hb); (try clear hb2); (try clear hk); (try clear hi); (try clear ho0)) | ((with_reducible refine gate_dst (N := 3) rfl ?_); refine box_event ?hg (N := 3) ?hd (cs := #[.int .i64 0, .int .i64 0, .slice none 0 0]) (t := 25) ?hr ?_; (case hd => rfl); (case hg => rfl); (case hr => first | (go_simp; done) | (go_simp; rfl)); intro gb601 hg w8 hbox hb; have n0_ := Aside0.mk (Kd.R_below (by (with_reducible repeat (first | apply Kd.R_alloc | apply Kd.R_drewN | apply Kd.R_drew)); exact HO599.out) hb); have n1_ := Aside0.mk (below_step (by repeat (first | (with_reducible first | exact HB.out | apply below_alloc | apply pw_below_drewN | apply below_drew1) | exact HB.out)) hb); have n2_ := Aside0.mk (hbox); have n3_ := Aside0.mk ((by rw [hg]; exact (below_size (by repeat (first | (with_reducible first | exact HB.out | apply below_alloc | apply pw_below_drewN | apply below_drew1) | exact HB.out))) : w.heap.size ≤ gb601)); have n4_ := Aside0.mk ((by rw [hg]; exact (below_size (by repeat (first | (with_reducible first | exact HB.out | apply below_alloc | apply pw_below_drewN | apply below_drew1) | exact HB.out))) : w.heap.size ≤ gb601)); clear HO599; clear HB; have HO599 := n0_; have HB := n1_; have BK601 := n2_; have GW601 := n3_; have GE601 := n4_; clear n0_ n1_ n2_ n3_ n4_; clear hb hbox hg; have hcz9_0 : w8.cell? ⟨gb601, 0, none⟩ = some (.int .i64 0) := (blk_cell BK601.out 0).trans rfl; have hcz9_1 : w8.cell? ⟨gb601, 1, none⟩ = some (.int .i64 0) := (blk_cell BK601.out 1).trans rfl; have hcz9_2 : w8.cell? ⟨gb601, 2, none⟩ = some (.slice none 0 0) := (blk_cell BK601.out 2).trans rfl; have hfz9_0 := blk_frozen BK601.out 0; have hfz9_1 := blk_frozen BK601.out 1; have hfz9_2 := blk_frozen BK601.out 2; obtain ⟨Ao10, co10, eo10⟩ := Kd.R_slice HO599.out; subst eo10) | ((with_reducible refine gate_callee (f := 23) rfl ?_); refine goesL_ (some 24) rfl rfl Try.func23 (by kernel_rfl) rfl #[.agg #[.int .i64 t595, .int .i64 t596, .slice Ao10 t597.length co10], .int .i64 t600] rfl (by (try simp only [List.map_toArray, List.map_cons, List.map_nil]); first | done | rfl | (simp only [List.length_drop, List.length_take]; rfl)) ?_; (with_reducible refine (impl_MendLink.calls k t595 t596 _ _ t597 t600 t602 t603 t604 t607 _ ?side1 ?side2 A4.out).mono ?_); (case side1 => refine (Kd.R_reads' (e := 3) (base := w.heap.size) (ok := fun k_ => True) (n := t597.length) (c := co10) ?_).2.2; exact (by (with_reducible repeat (first | apply Kd.R_alloc | apply Kd.R_drewN | apply Kd.R_drew)); exact (Kd.R_mono (Kd.R_far (p := ⟨gb601, 2, none⟩) (Kd.R_far (p := ⟨gb601, 1, none⟩) (Kd.R_far (p := ⟨gb601, 0, none⟩) (Kd.R_types HO599.out BK601.out (by decide)) (fun _ hk => hk.2) (.int .i64 t595)) (fun _ hk => hk.2) (.int .i64 t596)) (fun _ hk => hk.2) (.slice Ao10 t597.length co10)) (fun _ h_ => h_.1)))); (case side2 => exact (Kd.R_reads' HO599.out).2.1); rintro e w11 ⟨v605, rfl, ho0, hb⟩; refine ⟨_, rfl, ?_⟩; have n0_ := Aside0.mk (Kd.R_elder' (by (with_reducible repeat (first | apply Kd.R_alloc | apply Kd.R_drewN | apply Kd.R_drew)); exact (Kd.R_mono (Kd.R_far (p := ⟨gb601, 2, none⟩) (Kd.R_far (p := ⟨gb601, 1, none⟩) (Kd.R_far (p := ⟨gb601, 0, none⟩) (Kd.R_types HO599.out BK601.out (by decide)) (fun _ hk => hk.2) (.int .i64 t595)) (fun _ hk => hk.2) (.int .i64 t596)) (fun _ hk => hk.2) (.slice Ao10 t597.length co10)) (fun _ h_ => h_.1))) (Kd.R_base ho0) hb); have n1_ := Aside0.mk (Kd.R_lower (Kd.R_new' ho0 (Kd.R_lt (by (with_reducible repeat (first | apply Kd.R_alloc | apply Kd.R_drewN | apply Kd.R_drew)); exact (Kd.R_mono (Kd.R_far (p := ⟨gb601, 2, none⟩) (Kd.R_far (p := ⟨gb601, 1, none⟩) (Kd.R_far (p := ⟨gb601, 0, none⟩) (Kd.R_types HO599.out BK601.out (by decide)) (fun _ hk => hk.2) (.int .i64 t595)) (fun _ hk => hk.2) (.int .i64 t596)) (fun _ hk => hk.2) (.slice Ao10 t597.length co10)) (fun _ h_ => h_.1))))) (below_size (by repeat (first | (with_reducible first | exact HB.out | apply below_alloc | apply pw_below_drewN | apply below_drew1 | refine below_set ?_ GE601.out) | exact HB.out)))); have n2_ := Aside0.mk (blk_below (g := gb601) (o := .cells #[.int .i64 t595, .int .i64 t596, .slice Ao10 t597.length co10] 25 (0, 0)) (by (with_reducible repeat (first | refine blk_drewN ?_ _ | refine blk_drew ?_ | refine blk_alloc ?_ _)); refine blk_put (cs := #[.int .i64 t595, .int .i64 t596, .slice none 0 0]) ?_ 2 _ rfl; (with_reducible repeat (first | refine blk_drewN ?_ _ | refine blk_drew ?_ | refine blk_alloc ?_ _)); refine blk_put (cs := #[.int .i64 t595, .int .i64 0, .slice none 0 0]) ?_ 1 _ rfl; (with_reducible repeat (first | refine blk_drewN ?_ _ | refine blk_drew ?_ | refine blk_alloc ?_ _)); refine blk_put (cs := #[.int .i64 0, .int .i64 0, .slice none 0 0]) ?_ 0 _ rfl; (with_reducible repeat (first | refine blk_drewN ?_ _ | refine blk_drew ?_ | refine blk_alloc ?_ _)); exact BK601.out) hb); have n3_ := Aside0.mk (below_step (by repeat (first | (with_reducible first | exact HB.out | apply below_alloc | apply pw_below_drewN | apply below_drew1 | refine below_set ?_ GE601.out) | exact HB.out)) hb); clear HO599; clear BK601; clear HB; have HO599 := n0_; have HO606 := n1_; have BK601 := n2_; have HB := n3_; clear n0_ n1_ n2_ n3_; (try clear hb); (try clear hb2); (try clear hk); (try clear hi); (try clear ho0)) | ((with_reducible refine gate_dst (N := 5) rfl ?_); refine box_event ?hg (N := 5) ?hd (cs := #[.int .i64 0, .int .i64 0, .slice none 0 0]) (t := 25) ?hr ?_; (case hd => rfl); (case hg => rfl); (case hr => first | (go_simp; done) | (go_simp; rfl)); intro gb608 hg w12 hbox hb; have n0_ := Aside0.mk (Kd.R_below (by (with_reducible repeat (first | apply Kd.R_alloc | apply Kd.R_drewN | apply Kd.R_drew)); exact HO599.out) hb); have n1_ := Aside0.mk (Kd.R_below (by (with_reducible repeat (first | apply Kd.R_alloc | apply Kd.R_drewN | apply Kd.R_drew)); exact HO606.out) hb); have n2_ := Aside0.mk (blk_below (g := gb601) (o := .cells #[.int .i64 t595, .int .i64 t596, .slice Ao10 t597.length co10] 25 (0, 0)) (by (with_reducible repeat (first | refine blk_drewN ?_ _ | refine blk_drew ?_ | refine blk_alloc ?_ _)); exact BK601.out) hb); have n3_ := Aside0.mk (below_step (by repeat (first | (with_reducible first | exact HB.out | apply below_alloc | apply pw_below_drewN | apply below_drew1 | refine below_set ?_ GE601.out) | exact HB.out)) hb); have n4_ := Aside0.mk (hbox); have n5_ := Aside0.mk ((by rw [hg]; exact (below_size (by repeat (first | (with_reducible first | exact HB.out | apply below_alloc | apply pw_below_drewN | apply below_drew1 | refine below_set ?_ GE601.out) | exact HB.out))) : w.heap.size ≤ gb608)); have n6_ := Aside0.mk ((by rw [hg]; exact (below_size (by repeat (first | (with_reducible first | exact HB.out | apply below_alloc | apply pw_below_drewN | apply below_drew1 | refine below_set ?_ GE601.out) | exact HB.out))) : w.heap.size ≤ gb608)); have n7_ := Aside0.mk ((by rw [hg]; exact Nat.ne_of_lt (blk_lt (g := gb601) (o := .cells #[.int .i64 t595, .int .i64 t596, .slice Ao10 t597.length co10] 25 (0, 0)) (by (with_reducible repeat (first | refine blk_drewN ?_ _ | refine blk_drew ?_ | refine blk_alloc ?_ _)); exact BK601.out)) : gb601 ≠ gb608)); have n8_ := Aside0.mk ((by rw [hg]; exact Nat.ne_of_gt (blk_lt (g := gb601) (o := .cells #[.int .i64 t595, .int .i64 t596, .slice Ao10 t597.length co10] 25 (0, 0)) (by (with_reducible repeat (first | refine blk_drewN ?_ _ | refine blk_drew ?_ | refine blk_alloc ?_ _)); exact BK601.out)) : gb608 ≠ gb601)); clear HO599; clear HO606; clear BK601; clear HB; have HO599 := n0_; have HO606 := n1_; have BK601 := n2_; have HB := n3_; have BK608 := n4_; have GW608 := n5_; have GE608 := n6_; have NB601_608 := n7_; have NB608_601 := n8_; clear n0_ n1_ n2_ n3_ n4_ n5_ n6_ n7_ n8_; clear hb hbox hg; have hnb13 := NB608_601.out; have hnc13 := NB601_608.out; have hcz14_0 : w12.cell? ⟨gb608, 0, none⟩ = some (.int .i64 0) := (blk_cell BK608.out 0).trans rfl; have hcz14_1 : w12.cell? ⟨gb608, 1, none⟩ = some (.int .i64 0) := (blk_cell BK608.out 1).trans rfl; have hcz14_2 : w12.cell? ⟨gb608, 2, none⟩ = some (.slice none 0 0) := (blk_cell BK608.out 2).trans rfl; have hfz14_0 := blk_frozen BK608.out 0; have hfz14_1 := blk_frozen BK608.out 1; have hfz14_2 := blk_frozen BK608.out 2; obtain ⟨Ao15, co15, eo15⟩ := Kd.R_slice HO606.out; subst eo15; have hcz16_0 : w12.cell? ⟨gb601, 0, none⟩ = some (.int .i64 t595) := (blk_cell BK601.out 0).trans rfl; have hcz16_1 : w12.cell? ⟨gb601, 1, none⟩ = some (.int .i64 t596) := (blk_cell BK601.out 1).trans rfl; have hcz16_2 : w12.cell? ⟨gb601, 2, none⟩ = some (.slice Ao10 t597.length co10) := (blk_cell BK601.out 2).trans rfl; have hfz16_0 := blk_frozen BK601.out 0; have hfz16_1 := blk_frozen BK601.out 1; have hfz16_2 := blk_frozen BK601.out 2) | ((with_reducible refine gate_callee (f := 21) rfl ?_); refine goesL_ (some 30) rfl rfl Try.func21 (by kernel_rfl) rfl #[.agg #[.int .i64 t595, .int .i64 t596, .slice Ao10 t597.length co10], .int .i64 t600] rfl (by (try simp only [List.map_toArray, List.map_cons, List.map_nil]); first | done | rfl | (simp only [List.length_drop, List.length_take]; rfl)) ?_; (with_reducible refine (spec_MendLink.calls k t595 t596 _ _ t597 t600 t609 t610 t611 t614 _ ?side1 ?side2 A5.out).mono ?_); (case side1 => refine (Kd.R_reads' (e := 3) (base := w.heap.size) (ok := fun k_ => (True ∧ some k_ ≠ (.slice Ao15 t604.length co15 : Value).ownBlock)) (n := t597.length) (c := co10) ?_).2.2; exact (by (with_reducible repeat (first | apply Kd.R_alloc | apply Kd.R_drewN | apply Kd.R_drew)); exact (Kd.R_mono (Kd.R_far (p := ⟨gb608, 2, none⟩) (Kd.R_far (p := ⟨gb608, 1, none⟩) (Kd.R_far (p := ⟨gb608, 0, none⟩) (Kd.R_types HO599.out BK608.out (by decide)) (fun _ hk => hk.2) (.int .i64 t602)) (fun _ hk => hk.2) (.int .i64 t603)) (fun _ hk => hk.2) (.slice Ao15 t604.length co15)) (fun _ h_ => h_.1)))); (case side2 => exact (Kd.R_reads' HO599.out).2.1); rintro e w17 ⟨v612, rfl, ho0, hb⟩; refine ⟨_, rfl, ?_⟩; have n0_ := Aside0.mk (Kd.R_elder' (by (with_reducible repeat (first | apply Kd.R_alloc | apply Kd.R_drewN | apply Kd.R_drew)); exact (Kd.R_mono (Kd.R_far (p := ⟨gb608, 2, none⟩) (Kd.R_far (p := ⟨gb608, 1, none⟩) (Kd.R_far (p := ⟨gb608, 0, none⟩) (Kd.R_types HO599.out BK608.out (by decide)) (fun _ hk => hk.2) (.int .i64 t602)) (fun _ hk => hk.2) (.int .i64 t603)) (fun _ hk => hk.2) (.slice Ao15 t604.length co15)) (fun _ h_ => h_.1))) (Kd.R_base ho0) hb); have n1_ := Aside0.mk (Kd.R_elder' (by (with_reducible repeat (first | apply Kd.R_alloc | apply Kd.R_drewN | apply Kd.R_drew)); exact (Kd.R_mono (Kd.R_far (p := ⟨gb608, 2, none⟩) (Kd.R_far (p := ⟨gb608, 1, none⟩) (Kd.R_far (p := ⟨gb608, 0, none⟩) (Kd.R_types HO606.out BK608.out (by decide)) (fun _ hk => hk.2) (.int .i64 t602)) (fun _ hk => hk.2) (.int .i64 t603)) (fun _ hk => hk.2) (.slice Ao15 t604.length co15)) (fun _ h_ => h_.1))) (Kd.R_base ho0) hb); have n2_ := Aside0.mk (Kd.R_lower (Kd.R_new' (Kd.R_new' ho0 (Kd.R_lt (by (with_reducible repeat (first | apply Kd.R_alloc | apply Kd.R_drewN | apply Kd.R_drew)); exact (Kd.R_mono (Kd.R_far (p := ⟨gb608, 2, none⟩) (Kd.R_far (p := ⟨gb608, 1, none⟩) (Kd.R_far (p := ⟨gb608, 0, none⟩) (Kd.R_types HO599.out BK608.out (by decide)) (fun _ hk => hk.2) (.int .i64 t602)) (fun _ hk => hk.2) (.int .i64 t603)) (fun _ hk => hk.2) (.slice Ao15 t604.length co15)) (fun _ h_ => h_.1))))) (Kd.R_lt (by (with_reducible repeat (first | apply Kd.R_alloc | apply Kd.R_drewN | apply Kd.R_drew)); exact (Kd.R_mono (Kd.R_far (p := ⟨gb608, 2, none⟩) (Kd.R_far (p := ⟨gb608, 1, none⟩) (Kd.R_far (p := ⟨gb608, 0, none⟩) (Kd.R_types HO606.out BK608.out (by decide)) (fun _ hk => hk.2) (.int .i64 t602)) (fun _ hk => hk.2) (.int .i64 t603)) (fun _ hk => hk.2) (.slice Ao15 t604.length co15)) (fun _ h_ => h_.1))))) (below_size (by repeat (first | (with_reducible first | exact HB.out | apply below_alloc | apply pw_below_drewN | apply below_drew1 | refine below_set ?_ GE601.out | refine below_set ?_ GE608.out) | exact HB.out)))); have n3_ := Aside0.mk (blk_below (g := gb601) (o := .cells #[.int .i64 t595, .int .i64 t596, .slice Ao10 t597.length co10] 25 (0, 0)) (by (with_reducible repeat (first | refine blk_drewN ?_ _ | refine blk_drew ?_ | refine blk_alloc ?_ _)); refine blk_far ?_ NB601_608.out _; (with_reducible repeat (first | refine blk_drewN ?_ _ | refine blk_drew ?_ | refine blk_alloc ?_ _)); refine blk_far ?_ NB601_608.out _; (with_reducible repeat (first | refine blk_drewN ?_ _ | refine blk_drew ?_ | refine blk_alloc ?_ _)); refine blk_far ?_ NB601_608.out _; (with_reducible repeat (first | refine blk_drewN ?_ _ | refine blk_drew ?_ | refine blk_alloc ?_ _)); exact BK601.out) hb); have n4_ := Aside0.mk (blk_below (g := gb608) (o := .cells #[.int .i64 t602, .int .i64 t603, .slice Ao15 t604.length co15] 25 (0, 0)) (by (with_reducible repeat (first | refine blk_drewN ?_ _ | refine blk_drew ?_ | refine blk_alloc ?_ _)); refine blk_put (cs := #[.int .i64 t602, .int .i64 t603, .slice none 0 0]) ?_ 2 _ rfl; (with_reducible repeat (first | refine blk_drewN ?_ _ | refine blk_drew ?_ | refine blk_alloc ?_ _)); refine blk_put (cs := #[.int .i64 t602, .int .i64 0, .slice none 0 0]) ?_ 1 _ rfl; (with_reducible repeat (first | refine blk_drewN ?_ _ | refine blk_drew ?_ | refine blk_alloc ?_ _)); refine blk_put (cs := #[.int .i64 0, .int .i64 0, .slice none 0 0]) ?_ 0 _ rfl; (with_reducible repeat (first | refine blk_drewN ?_ _ | refine blk_drew ?_ | refine blk_alloc ?_ _)); exact BK608.out) hb); have n5_ := Aside0.mk (below_step (by repeat (first | (with_reducible first | exact HB.out | apply below_alloc | apply pw_below_drewN | apply below_drew1 | refine below_set ?_ GE601.out | refine below_set ?_ GE608.out) | exact HB.out)) hb); clear HO599; clear HO606; clear BK601; clear BK608; clear HB; have HO599 := n0_; have HO606 := n1_; have HO613 := n2_; have BK601 := n3_; have BK608 := n4_; have HB := n5_; clear n0_ n1_ n2_ n3_ n4_ n5_; (try clear hb); (try clear hb2); (try clear hk); (try clear hi); (try clear ho0)) | ((with_reducible refine gate_dst (N := 7) rfl ?_); refine box_event ?hg (N := 7) ?hd (cs := #[.int .i64 0, .int .i64 0, .slice none 0 0]) (t := 25) ?hr ?_; (case hd => rfl); (case hg => rfl); (case hr => first | (go_simp; done) | (go_simp; rfl)); intro gb615 hg w18 hbox hb; have n0_ := Aside0.mk (Kd.R_below (by (with_reducible repeat (first | apply Kd.R_alloc | apply Kd.R_drewN | apply Kd.R_drew)); exact HO599.out) hb); have n1_ := Aside0.mk (Kd.R_below (by (with_reducible repeat (first | apply Kd.R_alloc | apply Kd.R_drewN | apply Kd.R_drew)); exact HO606.out) hb); have n2_ := Aside0.mk (Kd.R_below (by (with_reducible repeat (first | apply Kd.R_alloc | apply Kd.R_drewN | apply Kd.R_drew)); exact HO613.out) hb); have n3_ := Aside0.mk (blk_below (g := gb601) (o := .cells #[.int .i64 t595, .int .i64 t596, .slice Ao10 t597.length co10] 25 (0, 0)) (by (with_reducible repeat (first | refine blk_drewN ?_ _ | refine blk_drew ?_ | refine blk_alloc ?_ _)); exact BK601.out) hb); have n4_ := Aside0.mk (blk_below (g := gb608) (o := .cells #[.int .i64 t602, .int .i64 t603, .slice Ao15 t604.length co15] 25 (0, 0)) (by (with_reducible repeat (first | refine blk_drewN ?_ _ | refine blk_drew ?_ | refine blk_alloc ?_ _)); exact BK608.out) hb); have n5_ := Aside0.mk (below_step (by repeat (first | (with_reducible first | exact HB.out | apply below_alloc | apply pw_below_drewN | apply below_drew1 | refine below_set ?_ GE601.out | refine below_set ?_ GE608.out) | exact HB.out)) hb); have n6_ := Aside0.mk (hbox); have n7_ := Aside0.mk ((by rw [hg]; exact (below_size (by repeat (first | (with_reducible first | exact HB.out | apply below_alloc | apply pw_below_drewN | apply below_drew1 | refine below_set ?_ GE601.out | refine below_set ?_ GE608.out) | exact HB.out))) : w.heap.size ≤ gb615)); have n8_ := Aside0.mk ((by rw [hg]; exact (below_size (by repeat (first | (with_reducible first | exact HB.out | apply below_alloc | apply pw_below_drewN | apply below_drew1 | refine below_set ?_ GE601.out | refine below_set ?_ GE608.out) | exact HB.out))) : w.heap.size ≤ gb615)); have n9_ := Aside0.mk ((by rw [hg]; exact Nat.ne_of_lt (blk_lt (g := gb601) (o := .cells #[.int .i64 t595, .int .i64 t596, .slice Ao10 t597.length co10] 25 (0, 0)) (by (with_reducible repeat (first | refine blk_drewN ?_ _ | refine blk_drew ?_ | refine blk_alloc ?_ _)); exact BK601.out)) : gb601 ≠ gb615)); have n10_ := Aside0.mk ((by rw [hg]; exact Nat.ne_of_gt (blk_lt (g := gb601) (o := .cells #[.int .i64 t595, .int .i64 t596, .slice Ao10 t597.length co10] 25 (0, 0)) (by (with_reducible repeat (first | refine blk_drewN ?_ _ | refine blk_drew ?_ | refine blk_alloc ?_ _)); exact BK601.out)) : gb615 ≠ gb601)); have n11_ := Aside0.mk ((by rw [hg]; exact Nat.ne_of_lt (blk_lt (g := gb608) (o := .cells #[.int .i64 t602, .int .i64 t603, .slice Ao15 t604.length co15] 25 (0, 0)) (by (with_reducible repeat (first | refine blk_drewN ?_ _ | refine blk_drew ?_ | refine blk_alloc ?_ _)); exact BK608.out)) : gb608 ≠ gb615)); have n12_ := Aside0.mk ((by rw [hg]; exact Nat.ne_of_gt (blk_lt (g := gb608) (o := .cells #[.int .i64 t602, .int .i64 t603, .slice Ao15 t604.length co15] 25 (0, 0)) (by (with_reducible repeat (first | refine blk_drewN ?_ _ | refine blk_drew ?_ | refine blk_alloc ?_ _)); exact BK608.out)) : gb615 ≠ gb608)); clear HO599; clear HO606; clear HO613; clear BK601; clear BK608; clear HB; have HO599 := n0_; have HO606 := n1_; have HO613 := n2_; have BK601 := n3_; have BK608 := n4_; have HB := n5_; have BK615 := n6_; have GW615 := n7_; have GE615 := n8_; have NB601_615 := n9_; have NB615_601 := n10_; have NB608_615 := n11_; have NB615_608 := n12_; clear n0_ n1_ n2_ n3_ n4_ n5_ n6_ n7_ n8_ n9_ n10_ n11_ n12_; clear hb hbox hg; have hnb19 := NB615_601.out; have hnc19 := NB601_615.out; have hnb20 := NB615_608.out; have hnc20 := NB608_615.out; have hcz21_0 : w18.cell? ⟨gb615, 0, none⟩ = some (.int .i64 0) := (blk_cell BK615.out 0).trans rfl; have hcz21_1 : w18.cell? ⟨gb615, 1, none⟩ = some (.int .i64 0) := (blk_cell BK615.out 1).trans rfl; have hcz21_2 : w18.cell? ⟨gb615, 2, none⟩ = some (.slice none 0 0) := (blk_cell BK615.out 2).trans rfl; have hfz21_0 := blk_frozen BK615.out 0; have hfz21_1 := blk_frozen BK615.out 1; have hfz21_2 := blk_frozen BK615.out 2; obtain ⟨Ao22, co22, eo22⟩ := Kd.R_slice HO613.out; subst eo22))
  (try simp only [Act.put, List.setIfInBounds_toArray, List.set_cons_zero, List.set_cons_succ])
  go_cut [61] (fun v61 wc => ∃ (kq : Nat) (x61_5 : Bool), v61 = .bool x61_5 ∧ Aside0 (laws_FnMend.j0 kq t600 t607 t614 x61_5 t595 t596 t597 t602 t603 t604 t609 t610 t611 = some r) ∧ Aside0 (kq ≤ k) ∧ Aside0 (Kd.R (Kd.int .i64) 3 wc w.heap.size (fun k_ => some k_ ≠ ((.slice Ao15 t604.length co15) : Value).ownBlock ∧ some k_ ≠ ((.slice Ao22 t611.length co22) : Value).ownBlock) (.slice Ao10 t597.length co10) t597) ∧ Aside0 (Kd.R (Kd.int .i64) 3 wc w.heap.size (fun k_ => some k_ ≠ ((.slice Ao10 t597.length co10) : Value).ownBlock ∧ some k_ ≠ ((.slice Ao22 t611.length co22) : Value).ownBlock) (.slice Ao15 t604.length co15) t604) ∧ Aside0 (Kd.R (Kd.int .i64) 3 wc w.heap.size (fun k_ => some k_ ≠ ((.slice Ao10 t597.length co10) : Value).ownBlock ∧ some k_ ≠ ((.slice Ao15 t604.length co15) : Value).ownBlock) (.slice Ao22 t611.length co22) t611) ∧ Aside0 (wc.heap[gb601]? = some (.cells #[.int .i64 t595, .int .i64 t596, (.slice Ao10 t597.length co10)] 25 (0, 0))) ∧ Aside0 (wc.heap[gb608]? = some (.cells #[.int .i64 t602, .int .i64 t603, (.slice Ao15 t604.length co15)] 25 (0, 0))) ∧ Aside0 (wc.heap[gb615]? = some (.cells #[.int .i64 t609, .int .i64 t610, (.slice Ao22 t611.length co22)] 25 (0, 0))) ∧ Aside0 (Below w.heap.size w wc))
  case first =>
   have H := HC6.out
   clear HC6
   by_cases c23 : (t607 != t614) = true
   ·rw [if_pos c23] at H
    have c23b0 : (t607 != t614) = true := c23
    (try (have c23b1 : decide (t607 = t614) = false := by simpa using c23))
    (try (have c23b2 : (t607 == t614) = false := by simpa using c23))
    (try (have c23b3 : ¬ (t607 = t614) := by simpa using c23))
    clear c23
    (first | rw [c23b0] | (simp only [i64_w, i32_w]; rw [c23b0]) | skip)
    have H' := Aside0.mk H
    clear H
    go_wp2
    go_meet
    case rel => exact ⟨_, (true), (by first | rfl | (simp; done) | (simp [*]; done)), H', ⟨by first | omega | exact Nat.le_refl _⟩, ⟨by (with_reducible repeat (first | apply Kd.R_alloc | apply Kd.R_drewN | apply Kd.R_drew)); exact Kd.R_mono (Kd.R_far (p := ⟨gb615, 2, none⟩) (Kd.R_far (p := ⟨gb615, 1, none⟩) (Kd.R_far (p := ⟨gb615, 0, none⟩) (Kd.R_types HO599.out BK615.out (by decide)) (fun _ hk => hk.2) (.int .i64 t609)) (fun _ hk => hk.2) (.int .i64 t610)) (fun _ hk => hk.2) (.slice Ao22 t611.length co22)) (fun _ hk => ⟨hk.1.1.2, hk.1.2⟩)⟩, ⟨by (with_reducible repeat (first | apply Kd.R_alloc | apply Kd.R_drewN | apply Kd.R_drew)); exact Kd.R_mono (Kd.R_far (p := ⟨gb615, 2, none⟩) (Kd.R_far (p := ⟨gb615, 1, none⟩) (Kd.R_far (p := ⟨gb615, 0, none⟩) (Kd.R_types HO606.out BK615.out (by decide)) (fun _ hk => hk.2) (.int .i64 t609)) (fun _ hk => hk.2) (.int .i64 t610)) (fun _ hk => hk.2) (.slice Ao22 t611.length co22)) (fun _ hk => ⟨hk.1.1.2, hk.1.2⟩)⟩, ⟨by (with_reducible repeat (first | apply Kd.R_alloc | apply Kd.R_drewN | apply Kd.R_drew)); exact Kd.R_mono (Kd.R_far (p := ⟨gb615, 2, none⟩) (Kd.R_far (p := ⟨gb615, 1, none⟩) (Kd.R_far (p := ⟨gb615, 0, none⟩) (Kd.R_types HO613.out BK615.out (by decide)) (fun _ hk => hk.2) (.int .i64 t609)) (fun _ hk => hk.2) (.int .i64 t610)) (fun _ hk => hk.2) (.slice Ao22 t611.length co22)) (fun _ hk => ⟨hk.1.1.2, hk.1.2⟩)⟩, ⟨by (with_reducible repeat (first | refine blk_drewN ?_ _ | refine blk_drew ?_ | refine blk_alloc ?_ _)); refine blk_far ?_ NB601_615.out _; (with_reducible repeat (first | refine blk_drewN ?_ _ | refine blk_drew ?_ | refine blk_alloc ?_ _)); refine blk_far ?_ NB601_615.out _; (with_reducible repeat (first | refine blk_drewN ?_ _ | refine blk_drew ?_ | refine blk_alloc ?_ _)); refine blk_far ?_ NB601_615.out _; (with_reducible repeat (first | refine blk_drewN ?_ _ | refine blk_drew ?_ | refine blk_alloc ?_ _)); exact BK601.out⟩, ⟨by (with_reducible repeat (first | refine blk_drewN ?_ _ | refine blk_drew ?_ | refine blk_alloc ?_ _)); refine blk_far ?_ NB608_615.out _; (with_reducible repeat (first | refine blk_drewN ?_ _ | refine blk_drew ?_ | refine blk_alloc ?_ _)); refine blk_far ?_ NB608_615.out _; (with_reducible repeat (first | refine blk_drewN ?_ _ | refine blk_drew ?_ | refine blk_alloc ?_ _)); refine blk_far ?_ NB608_615.out _; (with_reducible repeat (first | refine blk_drewN ?_ _ | refine blk_drew ?_ | refine blk_alloc ?_ _)); exact BK608.out⟩, ⟨by (with_reducible repeat (first | refine blk_drewN ?_ _ | refine blk_drew ?_ | refine blk_alloc ?_ _)); refine blk_put (cs := #[.int .i64 t609, .int .i64 t610, .slice none 0 0]) ?_ 2 _ rfl; (with_reducible repeat (first | refine blk_drewN ?_ _ | refine blk_drew ?_ | refine blk_alloc ?_ _)); refine blk_put (cs := #[.int .i64 t609, .int .i64 0, .slice none 0 0]) ?_ 1 _ rfl; (with_reducible repeat (first | refine blk_drewN ?_ _ | refine blk_drew ?_ | refine blk_alloc ?_ _)); refine blk_put (cs := #[.int .i64 0, .int .i64 0, .slice none 0 0]) ?_ 0 _ rfl; (with_reducible repeat (first | refine blk_drewN ?_ _ | refine blk_drew ?_ | refine blk_alloc ?_ _)); exact BK615.out⟩, ⟨by repeat (first | (with_reducible first | exact HB.out | apply below_alloc | apply pw_below_drewN | apply below_drew1 | refine below_set ?_ GE601.out | refine below_set ?_ GE608.out | refine below_set ?_ GE615.out) | exact HB.out)⟩⟩
   ·rw [if_neg c23] at H
    have c23b0 : (t607 != t614) = false := by simpa using c23
    (try (have c23b1 : decide (t607 = t614) = true := by simpa using c23))
    (try (have c23b2 : (t607 == t614) = true := by simpa using c23))
    clear c23
    (first | rw [c23b0] | (simp only [i64_w, i32_w]; rw [c23b0]) | skip)
    by_cases c24 : t602 = t609
    ·rw [if_pos c24] at H
     have c24b0 : (t602 == t609) = true := beq_iff_eq.mpr c24
     have c24b1 : (t602 != t609) = false := bne_eq_false_iff_eq.mpr c24
     clear c24
     by_cases c25 : t603 = t610
     ·rw [if_pos c25] at H
      have c25b0 : (t603 == t610) = true := beq_iff_eq.mpr c25
      have c25b1 : (t603 != t610) = false := bne_eq_false_iff_eq.mpr c25
      clear c25
      replace H := Option.bind_eq_some_iff.mp H
      obtain ⟨t616, A260, H⟩ := H
      replace H : (if t616 = true then (laws_FnMend.j0 k t600 t607 t614 (!t607) t595 t596 t597 t602 t603 t604 t609 t610 t611) else (laws_FnMend.j0 k t600 t607 t614 true t595 t596 t597 t602 t603 t604 t609 t610 t611)) = some r := H
      have A26 := Aside0.mk A260
      clear A260
      by_cases c27 : t616 = true
      ·subst c27
       have H1 : (laws_FnMend.j0 k t600 t607 t614 (!t607) t595 t596 t597 t602 t603 t604 t609 t610 t611) = some r := by rw [if_pos rfl] at H; exact H
       clear H
       have H := H1
       clear H1
       have H' := Aside0.mk H
       clear H
       have hnb28 := NB608_601.out
       have hnc28 := NB601_608.out
       have hnb29 := NB608_615.out
       have hnc29 := NB615_608.out
       have hcz30_0 : w18.cell? ⟨gb608, 0, none⟩ = some (.int .i64 t602) := (blk_cell BK608.out 0).trans rfl
       have hcz30_1 : w18.cell? ⟨gb608, 1, none⟩ = some (.int .i64 t603) := (blk_cell BK608.out 1).trans rfl
       have hcz30_2 : w18.cell? ⟨gb608, 2, none⟩ = some (.slice Ao15 t604.length co15) := (blk_cell BK608.out 2).trans rfl
       have hfz30_0 := blk_frozen BK608.out 0
       have hfz30_1 := blk_frozen BK608.out 1
       have hfz30_2 := blk_frozen BK608.out 2
       have hnb31 := NB615_601.out
       have hnc31 := NB601_615.out
       have hcz32_0 : w18.cell? ⟨gb615, 0, none⟩ = some (.int .i64 0) := (blk_cell BK615.out 0).trans rfl
       have hcz32_1 : w18.cell? ⟨gb615, 1, none⟩ = some (.int .i64 0) := (blk_cell BK615.out 1).trans rfl
       have hcz32_2 : w18.cell? ⟨gb615, 2, none⟩ = some (.slice none 0 0) := (blk_cell BK615.out 2).trans rfl
       have hfz32_0 := blk_frozen BK615.out 0
       have hfz32_1 := blk_frozen BK615.out 1
       have hfz32_2 := blk_frozen BK615.out 2
       go_wp2_with (first | (go_at_call 15; (with_reducible refine (laws_wnInts.calls k _ _ t604 _ _ t611 true _ ?side1 ?side2 ?side3 ?side4 A26.out).mono ?_); (case side1 => refine (Kd.R_reads' (e := 3) (base := w.heap.size) (ok := fun k_ => ((True ∧ some k_ ≠ (.slice Ao10 t597.length co10 : Value).ownBlock) ∧ some k_ ≠ (.slice Ao22 t611.length co22 : Value).ownBlock)) (n := t604.length) (c := co15) ?_).2.2; exact (by (with_reducible repeat (first | apply Kd.R_alloc | apply Kd.R_drewN | apply Kd.R_drew)); exact (Kd.R_mono (Kd.R_far (p := ⟨gb615, 2, none⟩) (Kd.R_far (p := ⟨gb615, 1, none⟩) (Kd.R_far (p := ⟨gb615, 0, none⟩) (Kd.R_types HO606.out BK615.out (by decide)) (fun _ hk => hk.2) (.int .i64 t609)) (fun _ hk => hk.2) (.int .i64 t610)) (fun _ hk => hk.2) (.slice Ao22 t611.length co22)) (fun _ h_ => h_.1)))); (case side2 => exact (Kd.R_reads' HO606.out).2.1); (case side3 => refine (Kd.R_reads' (e := 3) (base := w.heap.size) (ok := fun k_ => ((True ∧ some k_ ≠ (.slice Ao10 t597.length co10 : Value).ownBlock) ∧ some k_ ≠ (.slice Ao15 t604.length co15 : Value).ownBlock)) (n := t611.length) (c := co22) ?_).2.2; exact (by (with_reducible repeat (first | apply Kd.R_alloc | apply Kd.R_drewN | apply Kd.R_drew)); exact (Kd.R_mono (Kd.R_far (p := ⟨gb615, 2, none⟩) (Kd.R_far (p := ⟨gb615, 1, none⟩) (Kd.R_far (p := ⟨gb615, 0, none⟩) (Kd.R_types HO613.out BK615.out (by decide)) (fun _ hk => hk.2) (.int .i64 t609)) (fun _ hk => hk.2) (.int .i64 t610)) (fun _ hk => hk.2) (.slice Ao22 t611.length co22)) (fun _ h_ => h_.1)))); (case side4 => exact (Kd.R_reads' HO613.out).2.1); rintro e w' ⟨rfl, ⟨nd, rfl⟩⟩))
       go_meet
       case rel => exact ⟨_, (!t607), (by first | rfl | (simp; done) | (simp [*]; done)), H', ⟨by first | omega | exact Nat.le_refl _⟩, ⟨by (with_reducible repeat (first | apply Kd.R_alloc | apply Kd.R_drewN | apply Kd.R_drew)); exact Kd.R_mono (Kd.R_far (p := ⟨gb615, 2, none⟩) (Kd.R_far (p := ⟨gb615, 1, none⟩) (Kd.R_far (p := ⟨gb615, 0, none⟩) (Kd.R_types HO599.out BK615.out (by decide)) (fun _ hk => hk.2) (.int .i64 t609)) (fun _ hk => hk.2) (.int .i64 t610)) (fun _ hk => hk.2) (.slice Ao22 t611.length co22)) (fun _ hk => ⟨hk.1.1.2, hk.1.2⟩)⟩, ⟨by (with_reducible repeat (first | apply Kd.R_alloc | apply Kd.R_drewN | apply Kd.R_drew)); exact Kd.R_mono (Kd.R_far (p := ⟨gb615, 2, none⟩) (Kd.R_far (p := ⟨gb615, 1, none⟩) (Kd.R_far (p := ⟨gb615, 0, none⟩) (Kd.R_types HO606.out BK615.out (by decide)) (fun _ hk => hk.2) (.int .i64 t609)) (fun _ hk => hk.2) (.int .i64 t610)) (fun _ hk => hk.2) (.slice Ao22 t611.length co22)) (fun _ hk => ⟨hk.1.1.2, hk.1.2⟩)⟩, ⟨by (with_reducible repeat (first | apply Kd.R_alloc | apply Kd.R_drewN | apply Kd.R_drew)); exact Kd.R_mono (Kd.R_far (p := ⟨gb615, 2, none⟩) (Kd.R_far (p := ⟨gb615, 1, none⟩) (Kd.R_far (p := ⟨gb615, 0, none⟩) (Kd.R_types HO613.out BK615.out (by decide)) (fun _ hk => hk.2) (.int .i64 t609)) (fun _ hk => hk.2) (.int .i64 t610)) (fun _ hk => hk.2) (.slice Ao22 t611.length co22)) (fun _ hk => ⟨hk.1.1.2, hk.1.2⟩)⟩, ⟨by (with_reducible repeat (first | refine blk_drewN ?_ _ | refine blk_drew ?_ | refine blk_alloc ?_ _)); refine blk_far ?_ NB601_615.out _; (with_reducible repeat (first | refine blk_drewN ?_ _ | refine blk_drew ?_ | refine blk_alloc ?_ _)); refine blk_far ?_ NB601_615.out _; (with_reducible repeat (first | refine blk_drewN ?_ _ | refine blk_drew ?_ | refine blk_alloc ?_ _)); refine blk_far ?_ NB601_615.out _; (with_reducible repeat (first | refine blk_drewN ?_ _ | refine blk_drew ?_ | refine blk_alloc ?_ _)); exact BK601.out⟩, ⟨by (with_reducible repeat (first | refine blk_drewN ?_ _ | refine blk_drew ?_ | refine blk_alloc ?_ _)); refine blk_far ?_ NB608_615.out _; (with_reducible repeat (first | refine blk_drewN ?_ _ | refine blk_drew ?_ | refine blk_alloc ?_ _)); refine blk_far ?_ NB608_615.out _; (with_reducible repeat (first | refine blk_drewN ?_ _ | refine blk_drew ?_ | refine blk_alloc ?_ _)); refine blk_far ?_ NB608_615.out _; (with_reducible repeat (first | refine blk_drewN ?_ _ | refine blk_drew ?_ | refine blk_alloc ?_ _)); exact BK608.out⟩, ⟨by (with_reducible repeat (first | refine blk_drewN ?_ _ | refine blk_drew ?_ | refine blk_alloc ?_ _)); refine blk_put (cs := #[.int .i64 t609, .int .i64 t610, .slice none 0 0]) ?_ 2 _ rfl; (with_reducible repeat (first | refine blk_drewN ?_ _ | refine blk_drew ?_ | refine blk_alloc ?_ _)); refine blk_put (cs := #[.int .i64 t609, .int .i64 0, .slice none 0 0]) ?_ 1 _ rfl; (with_reducible repeat (first | refine blk_drewN ?_ _ | refine blk_drew ?_ | refine blk_alloc ?_ _)); refine blk_put (cs := #[.int .i64 0, .int .i64 0, .slice none 0 0]) ?_ 0 _ rfl; (with_reducible repeat (first | refine blk_drewN ?_ _ | refine blk_drew ?_ | refine blk_alloc ?_ _)); exact BK615.out⟩, ⟨by repeat (first | (with_reducible first | exact HB.out | apply below_alloc | apply pw_below_drewN | apply below_drew1 | refine below_set ?_ GE601.out | refine below_set ?_ GE608.out | refine below_set ?_ GE615.out) | exact HB.out)⟩⟩
      ·replace c27 := Bool.eq_false_iff.mpr c27
       subst c27
       have H1 : (laws_FnMend.j0 k t600 t607 t614 true t595 t596 t597 t602 t603 t604 t609 t610 t611) = some r := by rw [if_neg (show ¬ (false = true) by decide)] at H; exact H
       clear H
       have H := H1
       clear H1
       have H' := Aside0.mk H
       clear H
       have hnb33 := NB608_601.out
       have hnc33 := NB601_608.out
       have hnb34 := NB608_615.out
       have hnc34 := NB615_608.out
       have hcz35_0 : w18.cell? ⟨gb608, 0, none⟩ = some (.int .i64 t602) := (blk_cell BK608.out 0).trans rfl
       have hcz35_1 : w18.cell? ⟨gb608, 1, none⟩ = some (.int .i64 t603) := (blk_cell BK608.out 1).trans rfl
       have hcz35_2 : w18.cell? ⟨gb608, 2, none⟩ = some (.slice Ao15 t604.length co15) := (blk_cell BK608.out 2).trans rfl
       have hfz35_0 := blk_frozen BK608.out 0
       have hfz35_1 := blk_frozen BK608.out 1
       have hfz35_2 := blk_frozen BK608.out 2
       have hnb36 := NB615_601.out
       have hnc36 := NB601_615.out
       have hcz37_0 : w18.cell? ⟨gb615, 0, none⟩ = some (.int .i64 0) := (blk_cell BK615.out 0).trans rfl
       have hcz37_1 : w18.cell? ⟨gb615, 1, none⟩ = some (.int .i64 0) := (blk_cell BK615.out 1).trans rfl
       have hcz37_2 : w18.cell? ⟨gb615, 2, none⟩ = some (.slice none 0 0) := (blk_cell BK615.out 2).trans rfl
       have hfz37_0 := blk_frozen BK615.out 0
       have hfz37_1 := blk_frozen BK615.out 1
       have hfz37_2 := blk_frozen BK615.out 2
       go_wp2_with (first | (go_at_call 15; (with_reducible refine (laws_wnInts.calls k _ _ t604 _ _ t611 false _ ?side1 ?side2 ?side3 ?side4 A26.out).mono ?_); (case side1 => refine (Kd.R_reads' (e := 3) (base := w.heap.size) (ok := fun k_ => ((True ∧ some k_ ≠ (.slice Ao10 t597.length co10 : Value).ownBlock) ∧ some k_ ≠ (.slice Ao22 t611.length co22 : Value).ownBlock)) (n := t604.length) (c := co15) ?_).2.2; exact (by (with_reducible repeat (first | apply Kd.R_alloc | apply Kd.R_drewN | apply Kd.R_drew)); exact (Kd.R_mono (Kd.R_far (p := ⟨gb615, 2, none⟩) (Kd.R_far (p := ⟨gb615, 1, none⟩) (Kd.R_far (p := ⟨gb615, 0, none⟩) (Kd.R_types HO606.out BK615.out (by decide)) (fun _ hk => hk.2) (.int .i64 t609)) (fun _ hk => hk.2) (.int .i64 t610)) (fun _ hk => hk.2) (.slice Ao22 t611.length co22)) (fun _ h_ => h_.1)))); (case side2 => exact (Kd.R_reads' HO606.out).2.1); (case side3 => refine (Kd.R_reads' (e := 3) (base := w.heap.size) (ok := fun k_ => ((True ∧ some k_ ≠ (.slice Ao10 t597.length co10 : Value).ownBlock) ∧ some k_ ≠ (.slice Ao15 t604.length co15 : Value).ownBlock)) (n := t611.length) (c := co22) ?_).2.2; exact (by (with_reducible repeat (first | apply Kd.R_alloc | apply Kd.R_drewN | apply Kd.R_drew)); exact (Kd.R_mono (Kd.R_far (p := ⟨gb615, 2, none⟩) (Kd.R_far (p := ⟨gb615, 1, none⟩) (Kd.R_far (p := ⟨gb615, 0, none⟩) (Kd.R_types HO613.out BK615.out (by decide)) (fun _ hk => hk.2) (.int .i64 t609)) (fun _ hk => hk.2) (.int .i64 t610)) (fun _ hk => hk.2) (.slice Ao22 t611.length co22)) (fun _ h_ => h_.1)))); (case side4 => exact (Kd.R_reads' HO613.out).2.1); rintro e w' ⟨rfl, ⟨nd, rfl⟩⟩))
       go_meet
       case rel => exact ⟨_, (true), (by first | rfl | (simp; done) | (simp [*]; done)), H', ⟨by first | omega | exact Nat.le_refl _⟩, ⟨by (with_reducible repeat (first | apply Kd.R_alloc | apply Kd.R_drewN | apply Kd.R_drew)); exact Kd.R_mono (Kd.R_far (p := ⟨gb615, 2, none⟩) (Kd.R_far (p := ⟨gb615, 1, none⟩) (Kd.R_far (p := ⟨gb615, 0, none⟩) (Kd.R_types HO599.out BK615.out (by decide)) (fun _ hk => hk.2) (.int .i64 t609)) (fun _ hk => hk.2) (.int .i64 t610)) (fun _ hk => hk.2) (.slice Ao22 t611.length co22)) (fun _ hk => ⟨hk.1.1.2, hk.1.2⟩)⟩, ⟨by (with_reducible repeat (first | apply Kd.R_alloc | apply Kd.R_drewN | apply Kd.R_drew)); exact Kd.R_mono (Kd.R_far (p := ⟨gb615, 2, none⟩) (Kd.R_far (p := ⟨gb615, 1, none⟩) (Kd.R_far (p := ⟨gb615, 0, none⟩) (Kd.R_types HO606.out BK615.out (by decide)) (fun _ hk => hk.2) (.int .i64 t609)) (fun _ hk => hk.2) (.int .i64 t610)) (fun _ hk => hk.2) (.slice Ao22 t611.length co22)) (fun _ hk => ⟨hk.1.1.2, hk.1.2⟩)⟩, ⟨by (with_reducible repeat (first | apply Kd.R_alloc | apply Kd.R_drewN | apply Kd.R_drew)); exact Kd.R_mono (Kd.R_far (p := ⟨gb615, 2, none⟩) (Kd.R_far (p := ⟨gb615, 1, none⟩) (Kd.R_far (p := ⟨gb615, 0, none⟩) (Kd.R_types HO613.out BK615.out (by decide)) (fun _ hk => hk.2) (.int .i64 t609)) (fun _ hk => hk.2) (.int .i64 t610)) (fun _ hk => hk.2) (.slice Ao22 t611.length co22)) (fun _ hk => ⟨hk.1.1.2, hk.1.2⟩)⟩, ⟨by (with_reducible repeat (first | refine blk_drewN ?_ _ | refine blk_drew ?_ | refine blk_alloc ?_ _)); refine blk_far ?_ NB601_615.out _; (with_reducible repeat (first | refine blk_drewN ?_ _ | refine blk_drew ?_ | refine blk_alloc ?_ _)); refine blk_far ?_ NB601_615.out _; (with_reducible repeat (first | refine blk_drewN ?_ _ | refine blk_drew ?_ | refine blk_alloc ?_ _)); refine blk_far ?_ NB601_615.out _; (with_reducible repeat (first | refine blk_drewN ?_ _ | refine blk_drew ?_ | refine blk_alloc ?_ _)); exact BK601.out⟩, ⟨by (with_reducible repeat (first | refine blk_drewN ?_ _ | refine blk_drew ?_ | refine blk_alloc ?_ _)); refine blk_far ?_ NB608_615.out _; (with_reducible repeat (first | refine blk_drewN ?_ _ | refine blk_drew ?_ | refine blk_alloc ?_ _)); refine blk_far ?_ NB608_615.out _; (with_reducible repeat (first | refine blk_drewN ?_ _ | refine blk_drew ?_ | refine blk_alloc ?_ _)); refine blk_far ?_ NB608_615.out _; (with_reducible repeat (first | refine blk_drewN ?_ _ | refine blk_drew ?_ | refine blk_alloc ?_ _)); exact BK608.out⟩, ⟨by (with_reducible repeat (first | refine blk_drewN ?_ _ | refine blk_drew ?_ | refine blk_alloc ?_ _)); refine blk_put (cs := #[.int .i64 t609, .int .i64 t610, .slice none 0 0]) ?_ 2 _ rfl; (with_reducible repeat (first | refine blk_drewN ?_ _ | refine blk_drew ?_ | refine blk_alloc ?_ _)); refine blk_put (cs := #[.int .i64 t609, .int .i64 0, .slice none 0 0]) ?_ 1 _ rfl; (with_reducible repeat (first | refine blk_drewN ?_ _ | refine blk_drew ?_ | refine blk_alloc ?_ _)); refine blk_put (cs := #[.int .i64 0, .int .i64 0, .slice none 0 0]) ?_ 0 _ rfl; (with_reducible repeat (first | refine blk_drewN ?_ _ | refine blk_drew ?_ | refine blk_alloc ?_ _)); exact BK615.out⟩, ⟨by repeat (first | (with_reducible first | exact HB.out | apply below_alloc | apply pw_below_drewN | apply below_drew1 | refine below_set ?_ GE601.out | refine below_set ?_ GE608.out | refine below_set ?_ GE615.out) | exact HB.out)⟩⟩
     ·rw [if_neg c25] at H
      have c25b0 : (t603 == t610) = false := beq_eq_false_iff_ne.mpr c25
      have c25b1 : (t603 != t610) = true := bne_iff_ne.mpr c25
      have H' := Aside0.mk H
      clear H
      have hnb38 := NB608_601.out
      have hnc38 := NB601_608.out
      have hnb39 := NB608_615.out
      have hnc39 := NB615_608.out
      have hcz40_0 : w18.cell? ⟨gb608, 0, none⟩ = some (.int .i64 t602) := (blk_cell BK608.out 0).trans rfl
      have hcz40_1 : w18.cell? ⟨gb608, 1, none⟩ = some (.int .i64 t603) := (blk_cell BK608.out 1).trans rfl
      have hcz40_2 : w18.cell? ⟨gb608, 2, none⟩ = some (.slice Ao15 t604.length co15) := (blk_cell BK608.out 2).trans rfl
      have hfz40_0 := blk_frozen BK608.out 0
      have hfz40_1 := blk_frozen BK608.out 1
      have hfz40_2 := blk_frozen BK608.out 2
      have hnb41 := NB615_601.out
      have hnc41 := NB601_615.out
      have hcz42_0 : w18.cell? ⟨gb615, 0, none⟩ = some (.int .i64 0) := (blk_cell BK615.out 0).trans rfl
      have hcz42_1 : w18.cell? ⟨gb615, 1, none⟩ = some (.int .i64 0) := (blk_cell BK615.out 1).trans rfl
      have hcz42_2 : w18.cell? ⟨gb615, 2, none⟩ = some (.slice none 0 0) := (blk_cell BK615.out 2).trans rfl
      have hfz42_0 := blk_frozen BK615.out 0
      have hfz42_1 := blk_frozen BK615.out 1
      have hfz42_2 := blk_frozen BK615.out 2
      go_wp2
      go_meet
      case rel => exact ⟨_, (true), (by first | rfl | (simp; done) | (simp [*]; done)), H', ⟨by first | omega | exact Nat.le_refl _⟩, ⟨by (with_reducible repeat (first | apply Kd.R_alloc | apply Kd.R_drewN | apply Kd.R_drew)); exact Kd.R_mono (Kd.R_far (p := ⟨gb615, 2, none⟩) (Kd.R_far (p := ⟨gb615, 1, none⟩) (Kd.R_far (p := ⟨gb615, 0, none⟩) (Kd.R_types HO599.out BK615.out (by decide)) (fun _ hk => hk.2) (.int .i64 t609)) (fun _ hk => hk.2) (.int .i64 t610)) (fun _ hk => hk.2) (.slice Ao22 t611.length co22)) (fun _ hk => ⟨hk.1.1.2, hk.1.2⟩)⟩, ⟨by (with_reducible repeat (first | apply Kd.R_alloc | apply Kd.R_drewN | apply Kd.R_drew)); exact Kd.R_mono (Kd.R_far (p := ⟨gb615, 2, none⟩) (Kd.R_far (p := ⟨gb615, 1, none⟩) (Kd.R_far (p := ⟨gb615, 0, none⟩) (Kd.R_types HO606.out BK615.out (by decide)) (fun _ hk => hk.2) (.int .i64 t609)) (fun _ hk => hk.2) (.int .i64 t610)) (fun _ hk => hk.2) (.slice Ao22 t611.length co22)) (fun _ hk => ⟨hk.1.1.2, hk.1.2⟩)⟩, ⟨by (with_reducible repeat (first | apply Kd.R_alloc | apply Kd.R_drewN | apply Kd.R_drew)); exact Kd.R_mono (Kd.R_far (p := ⟨gb615, 2, none⟩) (Kd.R_far (p := ⟨gb615, 1, none⟩) (Kd.R_far (p := ⟨gb615, 0, none⟩) (Kd.R_types HO613.out BK615.out (by decide)) (fun _ hk => hk.2) (.int .i64 t609)) (fun _ hk => hk.2) (.int .i64 t610)) (fun _ hk => hk.2) (.slice Ao22 t611.length co22)) (fun _ hk => ⟨hk.1.1.2, hk.1.2⟩)⟩, ⟨by (with_reducible repeat (first | refine blk_drewN ?_ _ | refine blk_drew ?_ | refine blk_alloc ?_ _)); refine blk_far ?_ NB601_615.out _; (with_reducible repeat (first | refine blk_drewN ?_ _ | refine blk_drew ?_ | refine blk_alloc ?_ _)); refine blk_far ?_ NB601_615.out _; (with_reducible repeat (first | refine blk_drewN ?_ _ | refine blk_drew ?_ | refine blk_alloc ?_ _)); refine blk_far ?_ NB601_615.out _; (with_reducible repeat (first | refine blk_drewN ?_ _ | refine blk_drew ?_ | refine blk_alloc ?_ _)); exact BK601.out⟩, ⟨by (with_reducible repeat (first | refine blk_drewN ?_ _ | refine blk_drew ?_ | refine blk_alloc ?_ _)); refine blk_far ?_ NB608_615.out _; (with_reducible repeat (first | refine blk_drewN ?_ _ | refine blk_drew ?_ | refine blk_alloc ?_ _)); refine blk_far ?_ NB608_615.out _; (with_reducible repeat (first | refine blk_drewN ?_ _ | refine blk_drew ?_ | refine blk_alloc ?_ _)); refine blk_far ?_ NB608_615.out _; (with_reducible repeat (first | refine blk_drewN ?_ _ | refine blk_drew ?_ | refine blk_alloc ?_ _)); exact BK608.out⟩, ⟨by (with_reducible repeat (first | refine blk_drewN ?_ _ | refine blk_drew ?_ | refine blk_alloc ?_ _)); refine blk_put (cs := #[.int .i64 t609, .int .i64 t610, .slice none 0 0]) ?_ 2 _ rfl; (with_reducible repeat (first | refine blk_drewN ?_ _ | refine blk_drew ?_ | refine blk_alloc ?_ _)); refine blk_put (cs := #[.int .i64 t609, .int .i64 0, .slice none 0 0]) ?_ 1 _ rfl; (with_reducible repeat (first | refine blk_drewN ?_ _ | refine blk_drew ?_ | refine blk_alloc ?_ _)); refine blk_put (cs := #[.int .i64 0, .int .i64 0, .slice none 0 0]) ?_ 0 _ rfl; (with_reducible repeat (first | refine blk_drewN ?_ _ | refine blk_drew ?_ | refine blk_alloc ?_ _)); exact BK615.out⟩, ⟨by repeat (first | (with_reducible first | exact HB.out | apply below_alloc | apply pw_below_drewN | apply below_drew1 | refine below_set ?_ GE601.out | refine below_set ?_ GE608.out | refine below_set ?_ GE615.out) | exact HB.out)⟩⟩
    ·rw [if_neg c24] at H
     have c24b0 : (t602 == t609) = false := beq_eq_false_iff_ne.mpr c24
     have c24b1 : (t602 != t609) = true := bne_iff_ne.mpr c24
     have H' := Aside0.mk H
     clear H
     have hnb43 := NB608_601.out
     have hnc43 := NB601_608.out
     have hnb44 := NB608_615.out
     have hnc44 := NB615_608.out
     have hcz45_0 : w18.cell? ⟨gb608, 0, none⟩ = some (.int .i64 t602) := (blk_cell BK608.out 0).trans rfl
     have hcz45_1 : w18.cell? ⟨gb608, 1, none⟩ = some (.int .i64 t603) := (blk_cell BK608.out 1).trans rfl
     have hcz45_2 : w18.cell? ⟨gb608, 2, none⟩ = some (.slice Ao15 t604.length co15) := (blk_cell BK608.out 2).trans rfl
     have hfz45_0 := blk_frozen BK608.out 0
     have hfz45_1 := blk_frozen BK608.out 1
     have hfz45_2 := blk_frozen BK608.out 2
     have hnb46 := NB615_601.out
     have hnc46 := NB601_615.out
     have hcz47_0 : w18.cell? ⟨gb615, 0, none⟩ = some (.int .i64 0) := (blk_cell BK615.out 0).trans rfl
     have hcz47_1 : w18.cell? ⟨gb615, 1, none⟩ = some (.int .i64 0) := (blk_cell BK615.out 1).trans rfl
     have hcz47_2 : w18.cell? ⟨gb615, 2, none⟩ = some (.slice none 0 0) := (blk_cell BK615.out 2).trans rfl
     have hfz47_0 := blk_frozen BK615.out 0
     have hfz47_1 := blk_frozen BK615.out 1
     have hfz47_2 := blk_frozen BK615.out 2
     go_wp2
     go_meet
     case rel => exact ⟨_, (true), (by first | rfl | (simp; done) | (simp [*]; done)), H', ⟨by first | omega | exact Nat.le_refl _⟩, ⟨by (with_reducible repeat (first | apply Kd.R_alloc | apply Kd.R_drewN | apply Kd.R_drew)); exact Kd.R_mono (Kd.R_far (p := ⟨gb615, 2, none⟩) (Kd.R_far (p := ⟨gb615, 1, none⟩) (Kd.R_far (p := ⟨gb615, 0, none⟩) (Kd.R_types HO599.out BK615.out (by decide)) (fun _ hk => hk.2) (.int .i64 t609)) (fun _ hk => hk.2) (.int .i64 t610)) (fun _ hk => hk.2) (.slice Ao22 t611.length co22)) (fun _ hk => ⟨hk.1.1.2, hk.1.2⟩)⟩, ⟨by (with_reducible repeat (first | apply Kd.R_alloc | apply Kd.R_drewN | apply Kd.R_drew)); exact Kd.R_mono (Kd.R_far (p := ⟨gb615, 2, none⟩) (Kd.R_far (p := ⟨gb615, 1, none⟩) (Kd.R_far (p := ⟨gb615, 0, none⟩) (Kd.R_types HO606.out BK615.out (by decide)) (fun _ hk => hk.2) (.int .i64 t609)) (fun _ hk => hk.2) (.int .i64 t610)) (fun _ hk => hk.2) (.slice Ao22 t611.length co22)) (fun _ hk => ⟨hk.1.1.2, hk.1.2⟩)⟩, ⟨by (with_reducible repeat (first | apply Kd.R_alloc | apply Kd.R_drewN | apply Kd.R_drew)); exact Kd.R_mono (Kd.R_far (p := ⟨gb615, 2, none⟩) (Kd.R_far (p := ⟨gb615, 1, none⟩) (Kd.R_far (p := ⟨gb615, 0, none⟩) (Kd.R_types HO613.out BK615.out (by decide)) (fun _ hk => hk.2) (.int .i64 t609)) (fun _ hk => hk.2) (.int .i64 t610)) (fun _ hk => hk.2) (.slice Ao22 t611.length co22)) (fun _ hk => ⟨hk.1.1.2, hk.1.2⟩)⟩, ⟨by (with_reducible repeat (first | refine blk_drewN ?_ _ | refine blk_drew ?_ | refine blk_alloc ?_ _)); refine blk_far ?_ NB601_615.out _; (with_reducible repeat (first | refine blk_drewN ?_ _ | refine blk_drew ?_ | refine blk_alloc ?_ _)); refine blk_far ?_ NB601_615.out _; (with_reducible repeat (first | refine blk_drewN ?_ _ | refine blk_drew ?_ | refine blk_alloc ?_ _)); refine blk_far ?_ NB601_615.out _; (with_reducible repeat (first | refine blk_drewN ?_ _ | refine blk_drew ?_ | refine blk_alloc ?_ _)); exact BK601.out⟩, ⟨by (with_reducible repeat (first | refine blk_drewN ?_ _ | refine blk_drew ?_ | refine blk_alloc ?_ _)); refine blk_far ?_ NB608_615.out _; (with_reducible repeat (first | refine blk_drewN ?_ _ | refine blk_drew ?_ | refine blk_alloc ?_ _)); refine blk_far ?_ NB608_615.out _; (with_reducible repeat (first | refine blk_drewN ?_ _ | refine blk_drew ?_ | refine blk_alloc ?_ _)); refine blk_far ?_ NB608_615.out _; (with_reducible repeat (first | refine blk_drewN ?_ _ | refine blk_drew ?_ | refine blk_alloc ?_ _)); exact BK608.out⟩, ⟨by (with_reducible repeat (first | refine blk_drewN ?_ _ | refine blk_drew ?_ | refine blk_alloc ?_ _)); refine blk_put (cs := #[.int .i64 t609, .int .i64 t610, .slice none 0 0]) ?_ 2 _ rfl; (with_reducible repeat (first | refine blk_drewN ?_ _ | refine blk_drew ?_ | refine blk_alloc ?_ _)); refine blk_put (cs := #[.int .i64 t609, .int .i64 0, .slice none 0 0]) ?_ 1 _ rfl; (with_reducible repeat (first | refine blk_drewN ?_ _ | refine blk_drew ?_ | refine blk_alloc ?_ _)); refine blk_put (cs := #[.int .i64 0, .int .i64 0, .slice none 0 0]) ?_ 0 _ rfl; (with_reducible repeat (first | refine blk_drewN ?_ _ | refine blk_drew ?_ | refine blk_alloc ?_ _)); exact BK615.out⟩, ⟨by repeat (first | (with_reducible first | exact HB.out | apply below_alloc | apply pw_below_drewN | apply below_drew1 | refine below_set ?_ GE601.out | refine below_set ?_ GE608.out | refine below_set ?_ GE615.out) | exact HB.out)⟩⟩
  case rest =>
   clear HC6
   try clear c1
   try clear c2
   try clear c2b0
   try clear c2b1
   try clear p2
   try clear c3
   try clear c4
   try clear c10
   try clear c13
   try clear c19
   try clear c20
   try clear c21
   try clear c23
   try clear c23b0
   try clear c23b1
   try clear c23b2
   try clear c24
   try clear c24b0
   try clear c24b1
   try clear c25
   try clear c25b0
   try clear c25b1
   try clear c27
   try clear c28
   try clear c29
   try clear c31
   try clear c33
   try clear c34
   try clear c36
   try clear c38
   try clear c39
   try clear c41
   try clear c43
   try clear c44
   try clear c46
   try clear hcz14_0
   try clear hcz14_1
   try clear hcz14_2
   try clear hcz16_0
   try clear hcz16_1
   try clear hcz16_2
   try clear hcz21_0
   try clear hcz21_1
   try clear hcz21_2
   try clear hcz30_0
   try clear hcz30_1
   try clear hcz30_2
   try clear hcz32_0
   try clear hcz32_1
   try clear hcz32_2
   try clear hcz35_0
   try clear hcz35_1
   try clear hcz35_2
   try clear hcz37_0
   try clear hcz37_1
   try clear hcz37_2
   try clear hcz40_0
   try clear hcz40_1
   try clear hcz40_2
   try clear hcz42_0
   try clear hcz42_1
   try clear hcz42_2
   try clear hcz45_0
   try clear hcz45_1
   try clear hcz45_2
   try clear hcz47_0
   try clear hcz47_1
   try clear hcz47_2
   try clear hcz9_0
   try clear hcz9_1
   try clear hcz9_2
   try clear hfz14_0
   try clear hfz14_1
   try clear hfz14_2
   try clear hfz16_0
   try clear hfz16_1
   try clear hfz16_2
   try clear hfz21_0
   try clear hfz21_1
   try clear hfz21_2
   try clear hfz30_0
   try clear hfz30_1
   try clear hfz30_2
   try clear hfz32_0
   try clear hfz32_1
   try clear hfz32_2
   try clear hfz35_0
   try clear hfz35_1
   try clear hfz35_2
   try clear hfz37_0
   try clear hfz37_1
   try clear hfz37_2
   try clear hfz40_0
   try clear hfz40_1
   try clear hfz40_2
   try clear hfz42_0
   try clear hfz42_1
   try clear hfz42_2
   try clear hfz45_0
   try clear hfz45_1
   try clear hfz45_2
   try clear hfz47_0
   try clear hfz47_1
   try clear hfz47_2
   try clear hfz9_0
   try clear hfz9_1
   try clear hfz9_2
   obtain ⟨kq, x61_5, rfl, HA, HJ5, HO_602002, HO_609002, HO_616002, BK601, BK608, BK615, HB⟩ := hcut
   cases kq with
   | zero => exact absurd HA.out (by simp [laws_FnMend.j0])
   | succ kj5 =>
    have H := HA.out
    clear HA
    simp only [laws_FnMend.j0] at H
    by_cases c48 : x61_5 = true
    ·subst c48
     have H1 : (if (t607 == t614) = true then (if t602 = t609 then (if t603 = t610 then ((laws_wnInts.f kj5 t604 t611).bind fun t617 => (some t617)) else (some false)) else (some false)) else (some false)) = some r := by rw [if_pos rfl] at H; exact H
     clear H
     have H := H1
     clear H1
     by_cases c49 : (t607 == t614) = true
     ·rw [if_pos c49] at H
      have c49b0 : (t607 == t614) = true := c49
      (try (have c49b1 : decide (t607 = t614) = true := by simpa using c49))
      (try (have c49b2 : (t607 == t614) = true := by simpa using c49))
      clear c49
      by_cases c50 : t602 = t609
      ·rw [if_pos c50] at H
       have c50b0 : (t602 == t609) = true := beq_iff_eq.mpr c50
       have c50b1 : (t602 != t609) = false := bne_eq_false_iff_eq.mpr c50
       clear c50
       by_cases c51 : t603 = t610
       ·rw [if_pos c51] at H
        have c51b0 : (t603 == t610) = true := beq_iff_eq.mpr c51
        have c51b1 : (t603 != t610) = false := bne_eq_false_iff_eq.mpr c51
        clear c51
        replace H := Option.bind_eq_some_iff.mp H
        obtain ⟨t617, A520, H⟩ := H
        replace H : (some t617) = some r := H
        have A52 := Aside0.mk A520
        clear A520
        obtain rfl := Option.some.inj H
        have hnb53 := NB608_601.out
        have hnc53 := NB601_608.out
        have hnb54 := NB608_615.out
        have hnc54 := NB615_608.out
        have hcz55_0 : wc.cell? ⟨gb608, 0, none⟩ = some (.int .i64 t602) := (blk_cell BK608.out 0).trans rfl
        have hcz55_1 : wc.cell? ⟨gb608, 1, none⟩ = some (.int .i64 t603) := (blk_cell BK608.out 1).trans rfl
        have hcz55_2 : wc.cell? ⟨gb608, 2, none⟩ = some (.slice Ao15 t604.length co15) := (blk_cell BK608.out 2).trans rfl
        have hfz55_0 := blk_frozen BK608.out 0
        have hfz55_1 := blk_frozen BK608.out 1
        have hfz55_2 := blk_frozen BK608.out 2
        have hnb56 := NB615_601.out
        have hnc56 := NB601_615.out
        have hcz57_0 : wc.cell? ⟨gb615, 0, none⟩ = some (.int .i64 t609) := (blk_cell BK615.out 0).trans rfl
        have hcz57_1 : wc.cell? ⟨gb615, 1, none⟩ = some (.int .i64 t610) := (blk_cell BK615.out 1).trans rfl
        have hcz57_2 : wc.cell? ⟨gb615, 2, none⟩ = some (.slice Ao22 t611.length co22) := (blk_cell BK615.out 2).trans rfl
        have hfz57_0 := blk_frozen BK615.out 0
        have hfz57_1 := blk_frozen BK615.out 1
        have hfz57_2 := blk_frozen BK615.out 2
        go_wp2_with (first | (go_at_call 15; (with_reducible refine (laws_wnInts.calls kj5 _ _ t604 _ _ t611 t617 _ ?side1 ?side2 ?side3 ?side4 A52.out).mono ?_); (case side1 => repeat (first | exact (Kd.R_reads' HO_609002.out).2.2 | (with_reducible refine Kd.C_alloc ?_ _) | (with_reducible refine Kd.C_drewN ?_ _) | (with_reducible refine Kd.C_drew ?_))); (case side2 => exact (Kd.R_reads' HO_609002.out).2.1); (case side3 => repeat (first | exact (Kd.R_reads' HO_616002.out).2.2 | (with_reducible refine Kd.C_alloc ?_ _) | (with_reducible refine Kd.C_drewN ?_ _) | (with_reducible refine Kd.C_drew ?_))); (case side4 => exact (Kd.R_reads' HO_616002.out).2.1); rintro e w' ⟨rfl, ⟨nd, rfl⟩⟩))
        go_ret
        exact ⟨by first | rfl | (simp [errW_none, errW_some] <;> rfl) | (simp [*, errW_none, errW_some] <;> rfl), by repeat (first | (with_reducible first | exact HB.out | apply below_alloc | apply pw_below_drewN | apply below_drew1 | refine below_set ?_ GE601.out | refine below_set ?_ GE608.out | refine below_set ?_ GE615.out) | exact HB.out)⟩
       ·rw [if_neg c51] at H
        have c51b0 : (t603 == t610) = false := beq_eq_false_iff_ne.mpr c51
        have c51b1 : (t603 != t610) = true := bne_iff_ne.mpr c51
        obtain rfl := Option.some.inj H
        have hnb58 := NB608_601.out
        have hnc58 := NB601_608.out
        have hnb59 := NB608_615.out
        have hnc59 := NB615_608.out
        have hcz60_0 : wc.cell? ⟨gb608, 0, none⟩ = some (.int .i64 t602) := (blk_cell BK608.out 0).trans rfl
        have hcz60_1 : wc.cell? ⟨gb608, 1, none⟩ = some (.int .i64 t603) := (blk_cell BK608.out 1).trans rfl
        have hcz60_2 : wc.cell? ⟨gb608, 2, none⟩ = some (.slice Ao15 t604.length co15) := (blk_cell BK608.out 2).trans rfl
        have hfz60_0 := blk_frozen BK608.out 0
        have hfz60_1 := blk_frozen BK608.out 1
        have hfz60_2 := blk_frozen BK608.out 2
        have hnb61 := NB615_601.out
        have hnc61 := NB601_615.out
        have hcz62_0 : wc.cell? ⟨gb615, 0, none⟩ = some (.int .i64 t609) := (blk_cell BK615.out 0).trans rfl
        have hcz62_1 : wc.cell? ⟨gb615, 1, none⟩ = some (.int .i64 t610) := (blk_cell BK615.out 1).trans rfl
        have hcz62_2 : wc.cell? ⟨gb615, 2, none⟩ = some (.slice Ao22 t611.length co22) := (blk_cell BK615.out 2).trans rfl
        have hfz62_0 := blk_frozen BK615.out 0
        have hfz62_1 := blk_frozen BK615.out 1
        have hfz62_2 := blk_frozen BK615.out 2
        go_wp2
        go_ret
        exact ⟨by first | rfl | (simp [errW_none, errW_some] <;> rfl) | (simp [*, errW_none, errW_some] <;> rfl), by repeat (first | (with_reducible first | exact HB.out | apply below_alloc | apply pw_below_drewN | apply below_drew1 | refine below_set ?_ GE601.out | refine below_set ?_ GE608.out | refine below_set ?_ GE615.out) | exact HB.out)⟩
      ·rw [if_neg c50] at H
       have c50b0 : (t602 == t609) = false := beq_eq_false_iff_ne.mpr c50
       have c50b1 : (t602 != t609) = true := bne_iff_ne.mpr c50
       obtain rfl := Option.some.inj H
       have hnb63 := NB608_601.out
       have hnc63 := NB601_608.out
       have hnb64 := NB608_615.out
       have hnc64 := NB615_608.out
       have hcz65_0 : wc.cell? ⟨gb608, 0, none⟩ = some (.int .i64 t602) := (blk_cell BK608.out 0).trans rfl
       have hcz65_1 : wc.cell? ⟨gb608, 1, none⟩ = some (.int .i64 t603) := (blk_cell BK608.out 1).trans rfl
       have hcz65_2 : wc.cell? ⟨gb608, 2, none⟩ = some (.slice Ao15 t604.length co15) := (blk_cell BK608.out 2).trans rfl
       have hfz65_0 := blk_frozen BK608.out 0
       have hfz65_1 := blk_frozen BK608.out 1
       have hfz65_2 := blk_frozen BK608.out 2
       have hnb66 := NB615_601.out
       have hnc66 := NB601_615.out
       have hcz67_0 : wc.cell? ⟨gb615, 0, none⟩ = some (.int .i64 t609) := (blk_cell BK615.out 0).trans rfl
       have hcz67_1 : wc.cell? ⟨gb615, 1, none⟩ = some (.int .i64 t610) := (blk_cell BK615.out 1).trans rfl
       have hcz67_2 : wc.cell? ⟨gb615, 2, none⟩ = some (.slice Ao22 t611.length co22) := (blk_cell BK615.out 2).trans rfl
       have hfz67_0 := blk_frozen BK615.out 0
       have hfz67_1 := blk_frozen BK615.out 1
       have hfz67_2 := blk_frozen BK615.out 2
       go_wp2
       go_ret
       exact ⟨by first | rfl | (simp [errW_none, errW_some] <;> rfl) | (simp [*, errW_none, errW_some] <;> rfl), by repeat (first | (with_reducible first | exact HB.out | apply below_alloc | apply pw_below_drewN | apply below_drew1 | refine below_set ?_ GE601.out | refine below_set ?_ GE608.out | refine below_set ?_ GE615.out) | exact HB.out)⟩
     ·rw [if_neg c49] at H
      have c49b0 : (t607 == t614) = false := by simpa using c49
      (try (have c49b1 : decide (t607 = t614) = false := by simpa using c49))
      (try (have c49b2 : (t607 == t614) = false := by simpa using c49))
      (try (have c49b3 : ¬ (t607 = t614) := by simpa using c49))
      clear c49
      obtain rfl := Option.some.inj H
      go_wp2
      go_ret
      exact ⟨by first | rfl | (simp [errW_none, errW_some] <;> rfl) | (simp [*, errW_none, errW_some] <;> rfl), by repeat (first | (with_reducible first | exact HB.out | apply below_alloc | apply pw_below_drewN | apply below_drew1 | refine below_set ?_ GE601.out | refine below_set ?_ GE608.out | refine below_set ?_ GE615.out) | exact HB.out)⟩
    ·replace c48 := Bool.eq_false_iff.mpr c48
     subst c48
     have H1 : (laws_FnMend.l0 kj5 t600 t595 0 t595 t596 t597 t602 t603 t604) = some r := by rw [if_neg (show ¬ (false = true) by decide)] at H; exact H
     clear H
     have H := H1
     clear H1
     have H' := Aside0.mk H
     clear H
     have hnb68 := NB601_608.out
     have hnc68 := NB608_601.out
     have hnb69 := NB601_615.out
     have hnc69 := NB615_601.out
     have hcz70_0 : wc.cell? ⟨gb601, 0, none⟩ = some (.int .i64 t595) := (blk_cell BK601.out 0).trans rfl
     have hcz70_1 : wc.cell? ⟨gb601, 1, none⟩ = some (.int .i64 t596) := (blk_cell BK601.out 1).trans rfl
     have hcz70_2 : wc.cell? ⟨gb601, 2, none⟩ = some (.slice Ao10 t597.length co10) := (blk_cell BK601.out 2).trans rfl
     have hfz70_0 := blk_frozen BK601.out 0
     have hfz70_1 := blk_frozen BK601.out 1
     have hfz70_2 := blk_frozen BK601.out 2
     go_wp2
     go_loopg [88] kj5 (fun kq v88 w' => ∃ (x88_2 : Int), v88 = .int .i64 x88_2 ∧ Aside0 (laws_FnMend.l0 kq t600 t595 x88_2 t595 t596 t597 t602 t603 t604 = some r) ∧ Aside0 (kq ≤ kj5) ∧ Aside0 (Kd.R (Kd.int .i64) 3 w' w.heap.size (fun k_ => some k_ ≠ ((.slice Ao15 t604.length co15) : Value).ownBlock ∧ some k_ ≠ ((.slice Ao22 t611.length co22) : Value).ownBlock) (.slice Ao10 t597.length co10) t597) ∧ Aside0 (Kd.R (Kd.int .i64) 3 w' w.heap.size (fun k_ => some k_ ≠ ((.slice Ao10 t597.length co10) : Value).ownBlock ∧ some k_ ≠ ((.slice Ao22 t611.length co22) : Value).ownBlock) (.slice Ao15 t604.length co15) t604) ∧ Aside0 (Kd.R (Kd.int .i64) 3 w' w.heap.size (fun k_ => some k_ ≠ ((.slice Ao10 t597.length co10) : Value).ownBlock ∧ some k_ ≠ ((.slice Ao15 t604.length co15) : Value).ownBlock) (.slice Ao22 t611.length co22) t611) ∧ Aside0 (w'.heap[gb601]? = some (.cells #[.int .i64 t595, .int .i64 t596, (.slice Ao10 t597.length co10)] 25 (0, 0))) ∧ Aside0 (w'.heap[gb608]? = some (.cells #[.int .i64 t602, .int .i64 t603, (.slice Ao15 t604.length co15)] 25 (0, 0))) ∧ Aside0 (w'.heap[gb615]? = some (.cells #[.int .i64 t609, .int .i64 t610, (.slice Ao22 t611.length co22)] 25 (0, 0))) ∧ Aside0 (Below w.heap.size w w'))
     case atStart => exact ⟨(0), (by first | rfl | (simp; done) | (simp [*]; done)), H', ⟨Nat.le_refl _⟩, ⟨by (with_reducible repeat (first | apply Kd.R_alloc | apply Kd.R_drewN | apply Kd.R_drew)); exact HO_602002.out⟩, ⟨by (with_reducible repeat (first | apply Kd.R_alloc | apply Kd.R_drewN | apply Kd.R_drew)); exact HO_609002.out⟩, ⟨by (with_reducible repeat (first | apply Kd.R_alloc | apply Kd.R_drewN | apply Kd.R_drew)); exact HO_616002.out⟩, ⟨by (with_reducible repeat (first | refine blk_drewN ?_ _ | refine blk_drew ?_ | refine blk_alloc ?_ _)); exact BK601.out⟩, ⟨by (with_reducible repeat (first | refine blk_drewN ?_ _ | refine blk_drew ?_ | refine blk_alloc ?_ _)); exact BK608.out⟩, ⟨by (with_reducible repeat (first | refine blk_drewN ?_ _ | refine blk_drew ?_ | refine blk_alloc ?_ _)); exact BK615.out⟩, ⟨by repeat (first | (with_reducible first | exact HB.out | apply below_alloc | apply pw_below_drewN | apply below_drew1 | refine below_set ?_ GE601.out | refine below_set ?_ GE608.out | refine below_set ?_ GE615.out) | exact HB.out)⟩⟩
     case round =>
      clear H'
      try clear c1
      try clear c2
      try clear c2b0
      try clear c2b1
      try clear p2
      try clear c3
      try clear c4
      try clear c5
      try clear c6
      try clear c10
      try clear c13
      try clear c19
      try clear c20
      try clear c21
      try clear c23
      try clear c23b0
      try clear c23b1
      try clear c23b2
      try clear c24
      try clear c24b0
      try clear c24b1
      try clear c25
      try clear c25b0
      try clear c25b1
      try clear c27
      try clear c28
      try clear c29
      try clear c31
      try clear c33
      try clear c34
      try clear c36
      try clear c38
      try clear c39
      try clear c41
      try clear c43
      try clear c44
      try clear c46
      try clear c48
      try clear c49
      try clear c49b0
      try clear c49b1
      try clear c49b2
      try clear c50
      try clear c50b0
      try clear c50b1
      try clear c51
      try clear c51b0
      try clear c51b1
      try clear c53
      try clear c54
      try clear c56
      try clear c58
      try clear c59
      try clear c61
      try clear c63
      try clear c64
      try clear c66
      try clear c68
      try clear c69
      try clear hcz14_0
      try clear hcz14_1
      try clear hcz14_2
      try clear hcz16_0
      try clear hcz16_1
      try clear hcz16_2
      try clear hcz21_0
      try clear hcz21_1
      try clear hcz21_2
      try clear hcz30_0
      try clear hcz30_1
      try clear hcz30_2
      try clear hcz32_0
      try clear hcz32_1
      try clear hcz32_2
      try clear hcz35_0
      try clear hcz35_1
      try clear hcz35_2
      try clear hcz37_0
      try clear hcz37_1
      try clear hcz37_2
      try clear hcz40_0
      try clear hcz40_1
      try clear hcz40_2
      try clear hcz42_0
      try clear hcz42_1
      try clear hcz42_2
      try clear hcz45_0
      try clear hcz45_1
      try clear hcz45_2
      try clear hcz47_0
      try clear hcz47_1
      try clear hcz47_2
      try clear hcz55_0
      try clear hcz55_1
      try clear hcz55_2
      try clear hcz57_0
      try clear hcz57_1
      try clear hcz57_2
      try clear hcz60_0
      try clear hcz60_1
      try clear hcz60_2
      try clear hcz62_0
      try clear hcz62_1
      try clear hcz62_2
      try clear hcz65_0
      try clear hcz65_1
      try clear hcz65_2
      try clear hcz67_0
      try clear hcz67_1
      try clear hcz67_2
      try clear hcz70_0
      try clear hcz70_1
      try clear hcz70_2
      try clear hcz9_0
      try clear hcz9_1
      try clear hcz9_2
      try clear hfz14_0
      try clear hfz14_1
      try clear hfz14_2
      try clear hfz16_0
      try clear hfz16_1
      try clear hfz16_2
      try clear hfz21_0
      try clear hfz21_1
      try clear hfz21_2
      try clear hfz30_0
      try clear hfz30_1
      try clear hfz30_2
      try clear hfz32_0
      try clear hfz32_1
      try clear hfz32_2
      try clear hfz35_0
      try clear hfz35_1
      try clear hfz35_2
      try clear hfz37_0
      try clear hfz37_1
      try clear hfz37_2
      try clear hfz40_0
      try clear hfz40_1
      try clear hfz40_2
      try clear hfz42_0
      try clear hfz42_1
      try clear hfz42_2
      try clear hfz45_0
      try clear hfz45_1
      try clear hfz45_2
      try clear hfz47_0
      try clear hfz47_1
      try clear hfz47_2
      try clear hfz55_0
      try clear hfz55_1
      try clear hfz55_2
      try clear hfz57_0
      try clear hfz57_1
      try clear hfz57_2
      try clear hfz60_0
      try clear hfz60_1
      try clear hfz60_2
      try clear hfz62_0
      try clear hfz62_1
      try clear hfz62_2
      try clear hfz65_0
      try clear hfz65_1
      try clear hfz65_2
      try clear hfz67_0
      try clear hfz67_1
      try clear hfz67_2
      try clear hfz70_0
      try clear hfz70_1
      try clear hfz70_2
      try clear hfz9_0
      try clear hfz9_1
      try clear hfz9_2
      try clear p2
      obtain ⟨x88_2, rfl, HA, HK2, HO_602002, HO_609002, HO_616002, BK601, BK608, BK615, HB⟩ := hrel
      cases gk with
      | zero => exact absurd HA.out (by simp [laws_FnMend.l0])
      | succ k2 =>
       have H := HA.out
       clear HA
       simp only [laws_FnMend.l0] at H
       by_cases c71 : x88_2 < t595
       ·rw [if_pos c71] at H
        have c71b0 : decide (x88_2 < t595) = true := decide_eq_true c71
        clear c71
        replace H := Option.bind_eq_some_iff.mp H
        obtain ⟨t619, A720, H⟩ := H
        replace H : ((impl_ReachIn.f k2 t595 t596 t597 x88_2).bind fun t622 => (laws_FnMend.l1 k2 t600 t619 t595 x88_2 t622 (t622.length : Int) 0 t595 t596 t597 t602 t603 t604)) = some r := H
        have A72 := Aside0.mk A720
        clear A720
        replace H := Option.bind_eq_some_iff.mp H
        obtain ⟨t622, A730, H⟩ := H
        replace H : (laws_FnMend.l1 k2 t600 t619 t595 x88_2 t622 (t622.length : Int) 0 t595 t596 t597 t602 t603 t604) = some r := H
        have A73 := Aside0.mk A730
        clear A730
        have H' := Aside0.mk H
        clear H
        have hnb74 := NB608_601.out
        have hnc74 := NB601_608.out
        have hnb75 := NB608_615.out
        have hnc75 := NB615_608.out
        have hcz76_0 : wr.cell? ⟨gb608, 0, none⟩ = some (.int .i64 t602) := (blk_cell BK608.out 0).trans rfl
        have hcz76_1 : wr.cell? ⟨gb608, 1, none⟩ = some (.int .i64 t603) := (blk_cell BK608.out 1).trans rfl
        have hcz76_2 : wr.cell? ⟨gb608, 2, none⟩ = some (.slice Ao15 t604.length co15) := (blk_cell BK608.out 2).trans rfl
        have hfz76_0 := blk_frozen BK608.out 0
        have hfz76_1 := blk_frozen BK608.out 1
        have hfz76_2 := blk_frozen BK608.out 2
        go_wp2_with (first | ((with_reducible refine gate_callee (f := 19) rfl ?_); refine goesL_ (some 93) rfl rfl Try.func19 (by kernel_rfl) rfl #[.agg #[.int .i64 t602, .int .i64 t603, .slice Ao15 t604.length co15], .int .i64 x88_2] rfl (by (try simp only [List.map_toArray, List.map_cons, List.map_nil]); first | done | rfl | (simp only [List.length_drop, List.length_take]; rfl)) ?_; (with_reducible refine (impl_ReachIn.calls k2 t602 t603 _ _ t604 x88_2 t619 _ ?side1 ?side2 A72.out).mono ?_); (case side1 => repeat (first | exact (Kd.R_reads' HO_609002.out).2.2 | (with_reducible refine Kd.C_alloc ?_ _) | (with_reducible refine Kd.C_drewN ?_ _) | (with_reducible refine Kd.C_drew ?_))); (case side2 => exact (Kd.R_reads' HO_609002.out).2.1); rintro e w77 ⟨v620, rfl, ho0, hb⟩; refine ⟨_, rfl, ?_⟩; have n0_ := Aside0.mk (Kd.R_elder' (by (with_reducible repeat (first | apply Kd.R_alloc | apply Kd.R_drewN | apply Kd.R_drew)); exact HO_602002.out) (Kd.R_base ho0) hb); have n1_ := Aside0.mk (Kd.R_elder' (by (with_reducible repeat (first | apply Kd.R_alloc | apply Kd.R_drewN | apply Kd.R_drew)); exact HO_609002.out) (Kd.R_base ho0) hb); have n2_ := Aside0.mk (Kd.R_elder' (by (with_reducible repeat (first | apply Kd.R_alloc | apply Kd.R_drewN | apply Kd.R_drew)); exact HO_616002.out) (Kd.R_base ho0) hb); have n3_ := Aside0.mk (Kd.R_lower (Kd.R_new' (Kd.R_new' (Kd.R_new' ho0 (Kd.R_lt (by (with_reducible repeat (first | apply Kd.R_alloc | apply Kd.R_drewN | apply Kd.R_drew)); exact HO_602002.out))) (Kd.R_lt (by (with_reducible repeat (first | apply Kd.R_alloc | apply Kd.R_drewN | apply Kd.R_drew)); exact HO_609002.out))) (Kd.R_lt (by (with_reducible repeat (first | apply Kd.R_alloc | apply Kd.R_drewN | apply Kd.R_drew)); exact HO_616002.out))) (below_size (by repeat (first | (with_reducible first | exact HB.out | apply below_alloc | apply pw_below_drewN | apply below_drew1 | refine below_set ?_ GE601.out | refine below_set ?_ GE608.out | refine below_set ?_ GE615.out) | exact HB.out)))); have n4_ := Aside0.mk (blk_below (g := gb601) (o := .cells #[.int .i64 t595, .int .i64 t596, .slice Ao10 t597.length co10] 25 (0, 0)) (by (with_reducible repeat (first | refine blk_drewN ?_ _ | refine blk_drew ?_ | refine blk_alloc ?_ _)); exact BK601.out) hb); have n5_ := Aside0.mk (blk_below (g := gb608) (o := .cells #[.int .i64 t602, .int .i64 t603, .slice Ao15 t604.length co15] 25 (0, 0)) (by (with_reducible repeat (first | refine blk_drewN ?_ _ | refine blk_drew ?_ | refine blk_alloc ?_ _)); exact BK608.out) hb); have n6_ := Aside0.mk (blk_below (g := gb615) (o := .cells #[.int .i64 t609, .int .i64 t610, .slice Ao22 t611.length co22] 25 (0, 0)) (by (with_reducible repeat (first | refine blk_drewN ?_ _ | refine blk_drew ?_ | refine blk_alloc ?_ _)); exact BK615.out) hb); have n7_ := Aside0.mk (below_step (by repeat (first | (with_reducible first | exact HB.out | apply below_alloc | apply pw_below_drewN | apply below_drew1 | refine below_set ?_ GE601.out | refine below_set ?_ GE608.out | refine below_set ?_ GE615.out) | exact HB.out)) hb); clear HO_602002; clear HO_609002; clear HO_616002; clear BK601; clear BK608; clear BK615; clear HB; have HO_602002 := n0_; have HO_609002 := n1_; have HO_616002 := n2_; have HO621 := n3_; have BK601 := n4_; have BK608 := n5_; have BK615 := n6_; have HB := n7_; clear n0_ n1_ n2_ n3_ n4_ n5_ n6_ n7_; (try clear hb); (try clear hb2); (try clear hk); (try clear hi); (try clear ho0); have hnb78 := NB601_615.out; have hnc78 := NB615_601.out; have hcz79_0 : w77.cell? ⟨gb601, 0, none⟩ = some (.int .i64 t595) := (blk_cell BK601.out 0).trans rfl; have hcz79_1 : w77.cell? ⟨gb601, 1, none⟩ = some (.int .i64 t596) := (blk_cell BK601.out 1).trans rfl; have hcz79_2 : w77.cell? ⟨gb601, 2, none⟩ = some (.slice Ao10 t597.length co10) := (blk_cell BK601.out 2).trans rfl; have hfz79_0 := blk_frozen BK601.out 0; have hfz79_1 := blk_frozen BK601.out 1; have hfz79_2 := blk_frozen BK601.out 2) | ((with_reducible refine gate_callee (f := 19) rfl ?_); refine goesL_ (some 96) rfl rfl Try.func19 (by kernel_rfl) rfl #[.agg #[.int .i64 t595, .int .i64 t596, .slice Ao10 t597.length co10], .int .i64 x88_2] rfl (by (try simp only [List.map_toArray, List.map_cons, List.map_nil]); first | done | rfl | (simp only [List.length_drop, List.length_take]; rfl)) ?_; (with_reducible refine (impl_ReachIn.calls k2 t595 t596 _ _ t597 x88_2 t622 _ ?side1 ?side2 A73.out).mono ?_); (case side1 => repeat (first | exact (Kd.R_reads' HO_602002.out).2.2 | (with_reducible refine Kd.C_alloc ?_ _) | (with_reducible refine Kd.C_drewN ?_ _) | (with_reducible refine Kd.C_drew ?_))); (case side2 => exact (Kd.R_reads' HO_602002.out).2.1); rintro e w80 ⟨v623, rfl, ho0, hb⟩; refine ⟨_, rfl, ?_⟩; have n0_ := Aside0.mk (Kd.R_elder' (by (with_reducible repeat (first | apply Kd.R_alloc | apply Kd.R_drewN | apply Kd.R_drew)); exact HO_602002.out) (Kd.R_base ho0) hb); have n1_ := Aside0.mk (Kd.R_elder' (by (with_reducible repeat (first | apply Kd.R_alloc | apply Kd.R_drewN | apply Kd.R_drew)); exact HO_609002.out) (Kd.R_base ho0) hb); have n2_ := Aside0.mk (Kd.R_elder' (by (with_reducible repeat (first | apply Kd.R_alloc | apply Kd.R_drewN | apply Kd.R_drew)); exact HO_616002.out) (Kd.R_base ho0) hb); have n3_ := Aside0.mk (Kd.R_elder' (by (with_reducible repeat (first | apply Kd.R_alloc | apply Kd.R_drewN | apply Kd.R_drew)); exact HO621.out) (Kd.R_base ho0) hb); have n4_ := Aside0.mk (Kd.R_lower (Kd.R_new' (Kd.R_new' (Kd.R_new' (Kd.R_new' ho0 (Kd.R_lt (by (with_reducible repeat (first | apply Kd.R_alloc | apply Kd.R_drewN | apply Kd.R_drew)); exact HO_602002.out))) (Kd.R_lt (by (with_reducible repeat (first | apply Kd.R_alloc | apply Kd.R_drewN | apply Kd.R_drew)); exact HO_609002.out))) (Kd.R_lt (by (with_reducible repeat (first | apply Kd.R_alloc | apply Kd.R_drewN | apply Kd.R_drew)); exact HO_616002.out))) (Kd.R_lt (by (with_reducible repeat (first | apply Kd.R_alloc | apply Kd.R_drewN | apply Kd.R_drew)); exact HO621.out))) (below_size (by repeat (first | (with_reducible first | exact HB.out | apply below_alloc | apply pw_below_drewN | apply below_drew1 | refine below_set ?_ GE601.out | refine below_set ?_ GE608.out | refine below_set ?_ GE615.out) | exact HB.out)))); have n5_ := Aside0.mk (blk_below (g := gb601) (o := .cells #[.int .i64 t595, .int .i64 t596, .slice Ao10 t597.length co10] 25 (0, 0)) (by (with_reducible repeat (first | refine blk_drewN ?_ _ | refine blk_drew ?_ | refine blk_alloc ?_ _)); exact BK601.out) hb); have n6_ := Aside0.mk (blk_below (g := gb608) (o := .cells #[.int .i64 t602, .int .i64 t603, .slice Ao15 t604.length co15] 25 (0, 0)) (by (with_reducible repeat (first | refine blk_drewN ?_ _ | refine blk_drew ?_ | refine blk_alloc ?_ _)); exact BK608.out) hb); have n7_ := Aside0.mk (blk_below (g := gb615) (o := .cells #[.int .i64 t609, .int .i64 t610, .slice Ao22 t611.length co22] 25 (0, 0)) (by (with_reducible repeat (first | refine blk_drewN ?_ _ | refine blk_drew ?_ | refine blk_alloc ?_ _)); exact BK615.out) hb); have n8_ := Aside0.mk (below_step (by repeat (first | (with_reducible first | exact HB.out | apply below_alloc | apply pw_below_drewN | apply below_drew1 | refine below_set ?_ GE601.out | refine below_set ?_ GE608.out | refine below_set ?_ GE615.out) | exact HB.out)) hb); clear HO_602002; clear HO_609002; clear HO_616002; clear HO621; clear BK601; clear BK608; clear BK615; clear HB; have HO_602002 := n0_; have HO_609002 := n1_; have HO_616002 := n2_; have HO621 := n3_; have HO624 := n4_; have BK601 := n5_; have BK608 := n6_; have BK615 := n7_; have HB := n8_; clear n0_ n1_ n2_ n3_ n4_ n5_ n6_ n7_ n8_; (try clear hb); (try clear hb2); (try clear hk); (try clear hi); (try clear ho0); obtain ⟨Ao81, co81, eo81⟩ := Kd.R_slice HO624.out; subst eo81))
        go_loopg [98] k2 (fun kq v98 w' => ∃ (x98_3 : Int), v98 = .int .i64 x98_3 ∧ Aside0 (laws_FnMend.l1 kq t600 t619 t595 x88_2 t622 (t622.length : Int) x98_3 t595 t596 t597 t602 t603 t604 = some r) ∧ Aside0 (kq ≤ k2) ∧ Aside0 (Kd.R (Kd.int .i64) 3 w' w.heap.size (fun k_ => some k_ ≠ ((.slice Ao81 t622.length co81) : Value).ownBlock ∧ some k_ ≠ ((.slice Ao10 t597.length co10) : Value).ownBlock ∧ some k_ ≠ ((.slice Ao15 t604.length co15) : Value).ownBlock ∧ some k_ ≠ ((.slice Ao22 t611.length co22) : Value).ownBlock) v620 t619) ∧ Aside0 (Kd.R (Kd.int .i64) 3 w' w.heap.size (fun k_ => some k_ ≠ (v620 : Value).ownBlock ∧ some k_ ≠ ((.slice Ao10 t597.length co10) : Value).ownBlock ∧ some k_ ≠ ((.slice Ao15 t604.length co15) : Value).ownBlock ∧ some k_ ≠ ((.slice Ao22 t611.length co22) : Value).ownBlock) (.slice Ao81 t622.length co81) t622) ∧ Aside0 (Kd.R (Kd.int .i64) 3 w' w.heap.size (fun k_ => some k_ ≠ (v620 : Value).ownBlock ∧ some k_ ≠ ((.slice Ao81 t622.length co81) : Value).ownBlock ∧ some k_ ≠ ((.slice Ao15 t604.length co15) : Value).ownBlock ∧ some k_ ≠ ((.slice Ao22 t611.length co22) : Value).ownBlock) (.slice Ao10 t597.length co10) t597) ∧ Aside0 (Kd.R (Kd.int .i64) 3 w' w.heap.size (fun k_ => some k_ ≠ (v620 : Value).ownBlock ∧ some k_ ≠ ((.slice Ao81 t622.length co81) : Value).ownBlock ∧ some k_ ≠ ((.slice Ao10 t597.length co10) : Value).ownBlock ∧ some k_ ≠ ((.slice Ao22 t611.length co22) : Value).ownBlock) (.slice Ao15 t604.length co15) t604) ∧ Aside0 (Kd.R (Kd.int .i64) 3 w' w.heap.size (fun k_ => some k_ ≠ (v620 : Value).ownBlock ∧ some k_ ≠ ((.slice Ao81 t622.length co81) : Value).ownBlock ∧ some k_ ≠ ((.slice Ao10 t597.length co10) : Value).ownBlock ∧ some k_ ≠ ((.slice Ao15 t604.length co15) : Value).ownBlock) (.slice Ao22 t611.length co22) t611) ∧ Aside0 (w'.heap[gb601]? = some (.cells #[.int .i64 t595, .int .i64 t596, (.slice Ao10 t597.length co10)] 25 (0, 0))) ∧ Aside0 (w'.heap[gb608]? = some (.cells #[.int .i64 t602, .int .i64 t603, (.slice Ao15 t604.length co15)] 25 (0, 0))) ∧ Aside0 (w'.heap[gb615]? = some (.cells #[.int .i64 t609, .int .i64 t610, (.slice Ao22 t611.length co22)] 25 (0, 0))) ∧ Aside0 (Below w.heap.size w w'))
        case atStart => exact ⟨(0), (by first | rfl | (simp; done) | (simp [*]; done)), H', ⟨Nat.le_refl _⟩, ⟨by (with_reducible repeat (first | apply Kd.R_alloc | apply Kd.R_drewN | apply Kd.R_drew)); exact Kd.R_mono HO621.out (fun _ hk => ⟨hk.2, ⟨hk.1.1.1.2, ⟨hk.1.1.2, hk.1.2⟩⟩⟩)⟩, ⟨by (with_reducible repeat (first | apply Kd.R_alloc | apply Kd.R_drewN | apply Kd.R_drew)); exact Kd.R_mono HO624.out (fun _ hk => ⟨hk.2, ⟨hk.1.1.1.2, ⟨hk.1.1.2, hk.1.2⟩⟩⟩)⟩, ⟨by (with_reducible repeat (first | apply Kd.R_alloc | apply Kd.R_drewN | apply Kd.R_drew)); exact Kd.R_mono HO_602002.out (fun _ hk => ⟨hk.1.2, ⟨hk.2, ⟨hk.1.1.1, hk.1.1.2⟩⟩⟩)⟩, ⟨by (with_reducible repeat (first | apply Kd.R_alloc | apply Kd.R_drewN | apply Kd.R_drew)); exact Kd.R_mono HO_609002.out (fun _ hk => ⟨hk.1.2, ⟨hk.2, ⟨hk.1.1.1, hk.1.1.2⟩⟩⟩)⟩, ⟨by (with_reducible repeat (first | apply Kd.R_alloc | apply Kd.R_drewN | apply Kd.R_drew)); exact Kd.R_mono HO_616002.out (fun _ hk => ⟨hk.1.2, ⟨hk.2, ⟨hk.1.1.1, hk.1.1.2⟩⟩⟩)⟩, ⟨by (with_reducible repeat (first | refine blk_drewN ?_ _ | refine blk_drew ?_ | refine blk_alloc ?_ _)); exact BK601.out⟩, ⟨by (with_reducible repeat (first | refine blk_drewN ?_ _ | refine blk_drew ?_ | refine blk_alloc ?_ _)); exact BK608.out⟩, ⟨by (with_reducible repeat (first | refine blk_drewN ?_ _ | refine blk_drew ?_ | refine blk_alloc ?_ _)); exact BK615.out⟩, ⟨by repeat (first | (with_reducible first | exact HB.out | apply below_alloc | apply pw_below_drewN | apply below_drew1 | refine below_set ?_ GE601.out | refine below_set ?_ GE608.out | refine below_set ?_ GE615.out) | exact HB.out)⟩⟩
        case round =>
         clear H'
         try clear c1
         try clear c2
         try clear c2b0
         try clear c2b1
         try clear p2
         try clear c3
         try clear c4
         try clear c5
         try clear c6
         try clear c7
         try clear c10
         try clear c13
         try clear c19
         try clear c20
         try clear c21
         try clear c23
         try clear c23b0
         try clear c23b1
         try clear c23b2
         try clear c24
         try clear c24b0
         try clear c24b1
         try clear c25
         try clear c25b0
         try clear c25b1
         try clear c27
         try clear c28
         try clear c29
         try clear c31
         try clear c33
         try clear c34
         try clear c36
         try clear c38
         try clear c39
         try clear c41
         try clear c43
         try clear c44
         try clear c46
         try clear c48
         try clear c49
         try clear c49b0
         try clear c49b1
         try clear c49b2
         try clear c50
         try clear c50b0
         try clear c50b1
         try clear c51
         try clear c51b0
         try clear c51b1
         try clear c53
         try clear c54
         try clear c56
         try clear c58
         try clear c59
         try clear c61
         try clear c63
         try clear c64
         try clear c66
         try clear c68
         try clear c69
         try clear c71
         try clear c71b0
         try clear c74
         try clear c75
         try clear c78
         try clear hcz14_0
         try clear hcz14_1
         try clear hcz14_2
         try clear hcz16_0
         try clear hcz16_1
         try clear hcz16_2
         try clear hcz21_0
         try clear hcz21_1
         try clear hcz21_2
         try clear hcz30_0
         try clear hcz30_1
         try clear hcz30_2
         try clear hcz32_0
         try clear hcz32_1
         try clear hcz32_2
         try clear hcz35_0
         try clear hcz35_1
         try clear hcz35_2
         try clear hcz37_0
         try clear hcz37_1
         try clear hcz37_2
         try clear hcz40_0
         try clear hcz40_1
         try clear hcz40_2
         try clear hcz42_0
         try clear hcz42_1
         try clear hcz42_2
         try clear hcz45_0
         try clear hcz45_1
         try clear hcz45_2
         try clear hcz47_0
         try clear hcz47_1
         try clear hcz47_2
         try clear hcz55_0
         try clear hcz55_1
         try clear hcz55_2
         try clear hcz57_0
         try clear hcz57_1
         try clear hcz57_2
         try clear hcz60_0
         try clear hcz60_1
         try clear hcz60_2
         try clear hcz62_0
         try clear hcz62_1
         try clear hcz62_2
         try clear hcz65_0
         try clear hcz65_1
         try clear hcz65_2
         try clear hcz67_0
         try clear hcz67_1
         try clear hcz67_2
         try clear hcz70_0
         try clear hcz70_1
         try clear hcz70_2
         try clear hcz76_0
         try clear hcz76_1
         try clear hcz76_2
         try clear hcz79_0
         try clear hcz79_1
         try clear hcz79_2
         try clear hcz9_0
         try clear hcz9_1
         try clear hcz9_2
         try clear hfz14_0
         try clear hfz14_1
         try clear hfz14_2
         try clear hfz16_0
         try clear hfz16_1
         try clear hfz16_2
         try clear hfz21_0
         try clear hfz21_1
         try clear hfz21_2
         try clear hfz30_0
         try clear hfz30_1
         try clear hfz30_2
         try clear hfz32_0
         try clear hfz32_1
         try clear hfz32_2
         try clear hfz35_0
         try clear hfz35_1
         try clear hfz35_2
         try clear hfz37_0
         try clear hfz37_1
         try clear hfz37_2
         try clear hfz40_0
         try clear hfz40_1
         try clear hfz40_2
         try clear hfz42_0
         try clear hfz42_1
         try clear hfz42_2
         try clear hfz45_0
         try clear hfz45_1
         try clear hfz45_2
         try clear hfz47_0
         try clear hfz47_1
         try clear hfz47_2
         try clear hfz55_0
         try clear hfz55_1
         try clear hfz55_2
         try clear hfz57_0
         try clear hfz57_1
         try clear hfz57_2
         try clear hfz60_0
         try clear hfz60_1
         try clear hfz60_2
         try clear hfz62_0
         try clear hfz62_1
         try clear hfz62_2
         try clear hfz65_0
         try clear hfz65_1
         try clear hfz65_2
         try clear hfz67_0
         try clear hfz67_1
         try clear hfz67_2
         try clear hfz70_0
         try clear hfz70_1
         try clear hfz70_2
         try clear hfz76_0
         try clear hfz76_1
         try clear hfz76_2
         try clear hfz79_0
         try clear hfz79_1
         try clear hfz79_2
         try clear hfz9_0
         try clear hfz9_1
         try clear hfz9_2
         try clear p2
         obtain ⟨x98_3, rfl, HA, HK3, HO_10, HO_96, HO_602002, HO_609002, HO_616002, BK601, BK608, BK615, HB⟩ := hrel
         cases gk with
         | zero => exact absurd HA.out (by simp [laws_FnMend.l1])
         | succ k3 =>
          have H := HA.out
          clear HA
          simp only [laws_FnMend.l1] at H
          by_cases c82 : x98_3 < (t622.length : Int)
          ·rw [if_pos c82] at H
           have c82b0 : decide (x98_3 < (t622.length : Int)) = true := decide_eq_true c82
           clear c82
           by_cases c83 : 0 ≤ x98_3
           ·rw [if_pos c83] at H
            have c83b0 : decide (0 ≤ x98_3) = true := decide_eq_true c83
            clear c83
            by_cases c84 : x98_3 < (t622.length : Int)
            ·rw [if_pos c84] at H
             have c84b0 : decide (x98_3 < (t622.length : Int)) = true := decide_eq_true c84
             clear c84
             replace H := Option.bind_eq_some_iff.mp H
             obtain ⟨t626, A850, H⟩ := H
             replace H : (if t626 = true then (laws_FnMend.l1 k3 t600 t619 t595 x88_2 t622 (t622.length : Int) (wrap64 (x98_3 + 1)) t595 t596 t597 t602 t603 t604) else (some false)) = some r := H
             have A85 := Aside0.mk A850
             clear A850
             by_cases c86 : t626 = true
             ·subst c86
              have H1 : (laws_FnMend.l1 k3 t600 t619 t595 x88_2 t622 (t622.length : Int) (wrap64 (x98_3 + 1)) t595 t596 t597 t602 t603 t604) = some r := by rw [if_pos rfl] at H; exact H
              clear H
              have H := H1
              clear H1
              have H' := Aside0.mk H
              clear H
              have p625 : 0 ≤ (x98_3 : Int) := of_decide_eq_true (by first | (with_reducible assumption) | assumption)
              have q625 : x98_3 < (t622.length : Int) := of_decide_eq_true (by first | (with_reducible assumption) | assumption)
              obtain ⟨ad625, e625, hx625_0⟩ := Kd.at_int (Kd.R_reads' HO_96.out).2.2 x98_3 p625 q625
              cases e625
              replace p625 := eq_true p625
              replace q625 := eq_true q625
              obtain ⟨Ao87, co87, eo87⟩ := Kd.R_slice HO_10.out
              subst eo87
              go_wp2_with (first | ((with_reducible refine gate_callee (f := 33) rfl ?_); refine goesL_ (some 104) rfl rfl Try.func33 (by kernel_rfl) rfl #[.slice Ao87 t619.length co87, .int .i64 (rd t622 x98_3)] rfl (by (try simp only [List.map_toArray, List.map_cons, List.map_nil]); first | done | rfl | (simp only [List.length_drop, List.length_take]; rfl)) ?_; (with_reducible refine (laws_wnHas.calls k3 _ _ t619 (rd t622 x98_3) true _ ?side1 ?side2 A85.out).mono ?_); (case side1 => repeat (first | exact (Kd.R_reads' HO_10.out).2.2 | (with_reducible refine Kd.C_alloc ?_ _) | (with_reducible refine Kd.C_drewN ?_ _) | (with_reducible refine Kd.C_drew ?_))); (case side2 => exact (Kd.R_reads' HO_10.out).2.1); rintro e w' ⟨rfl, ⟨nd, rfl⟩⟩; refine ⟨_, rfl, ?_⟩))
              go_roundg k3
              case measure => have := HJ5.out; have := HK2.out; have := HK3.out; omega
              case rel => exact ⟨(wrap64 (x98_3 + 1)), (by first | rfl | (simp; done) | (simp [*]; done)), H', ⟨by have := HJ5.out; have := HK2.out; have := HK3.out; omega⟩, ⟨by (with_reducible repeat (first | apply Kd.R_alloc | apply Kd.R_drewN | apply Kd.R_drew)); exact HO_10.out⟩, ⟨by (with_reducible repeat (first | apply Kd.R_alloc | apply Kd.R_drewN | apply Kd.R_drew)); exact HO_96.out⟩, ⟨by (with_reducible repeat (first | apply Kd.R_alloc | apply Kd.R_drewN | apply Kd.R_drew)); exact HO_602002.out⟩, ⟨by (with_reducible repeat (first | apply Kd.R_alloc | apply Kd.R_drewN | apply Kd.R_drew)); exact HO_609002.out⟩, ⟨by (with_reducible repeat (first | apply Kd.R_alloc | apply Kd.R_drewN | apply Kd.R_drew)); exact HO_616002.out⟩, ⟨by (with_reducible repeat (first | refine blk_drewN ?_ _ | refine blk_drew ?_ | refine blk_alloc ?_ _)); exact BK601.out⟩, ⟨by (with_reducible repeat (first | refine blk_drewN ?_ _ | refine blk_drew ?_ | refine blk_alloc ?_ _)); exact BK608.out⟩, ⟨by (with_reducible repeat (first | refine blk_drewN ?_ _ | refine blk_drew ?_ | refine blk_alloc ?_ _)); exact BK615.out⟩, ⟨by repeat (first | (with_reducible first | exact HB.out | apply below_alloc | apply pw_below_drewN | apply below_drew1 | refine below_set ?_ GE601.out | refine below_set ?_ GE608.out | refine below_set ?_ GE615.out) | exact HB.out)⟩⟩
             ·replace c86 := Bool.eq_false_iff.mpr c86
              subst c86
              have H1 : (some false) = some r := by rw [if_neg (show ¬ (false = true) by decide)] at H; exact H
              clear H
              have H := H1
              clear H1
              obtain rfl := Option.some.inj H
              have p625 : 0 ≤ (x98_3 : Int) := of_decide_eq_true (by first | (with_reducible assumption) | assumption)
              have q625 : x98_3 < (t622.length : Int) := of_decide_eq_true (by first | (with_reducible assumption) | assumption)
              obtain ⟨ad625, e625, hx625_0⟩ := Kd.at_int (Kd.R_reads' HO_96.out).2.2 x98_3 p625 q625
              cases e625
              replace p625 := eq_true p625
              replace q625 := eq_true q625
              obtain ⟨Ao88, co88, eo88⟩ := Kd.R_slice HO_10.out
              subst eo88
              go_wp2_with (first | ((with_reducible refine gate_callee (f := 33) rfl ?_); refine goesL_ (some 104) rfl rfl Try.func33 (by kernel_rfl) rfl #[.slice Ao88 t619.length co88, .int .i64 (rd t622 x98_3)] rfl (by (try simp only [List.map_toArray, List.map_cons, List.map_nil]); first | done | rfl | (simp only [List.length_drop, List.length_take]; rfl)) ?_; (with_reducible refine (laws_wnHas.calls k3 _ _ t619 (rd t622 x98_3) false _ ?side1 ?side2 A85.out).mono ?_); (case side1 => repeat (first | exact (Kd.R_reads' HO_10.out).2.2 | (with_reducible refine Kd.C_alloc ?_ _) | (with_reducible refine Kd.C_drewN ?_ _) | (with_reducible refine Kd.C_drew ?_))); (case side2 => exact (Kd.R_reads' HO_10.out).2.1); rintro e w' ⟨rfl, ⟨nd, rfl⟩⟩; refine ⟨_, rfl, ?_⟩))
              go_ret
              exact ⟨by first | rfl | (simp [errW_none, errW_some] <;> rfl) | (simp [*, errW_none, errW_some] <;> rfl), by repeat (first | (with_reducible first | exact HB.out | apply below_alloc | apply pw_below_drewN | apply below_drew1 | refine below_set ?_ GE601.out | refine below_set ?_ GE608.out | refine below_set ?_ GE615.out) | exact HB.out)⟩
            ·rw [if_neg c84] at H
             exact absurd H (by simp)
           ·rw [if_neg c83] at H
            exact absurd H (by simp)
          ·rw [if_neg c82] at H
           have c82b0 : decide (x98_3 < (t622.length : Int)) = false := decide_eq_false c82
           clear c82
           have H' := Aside0.mk H
           clear H
           go_wp2
           go_roundg k3
           case measure => have := HJ5.out; have := HK2.out; have := HK3.out; omega
           case rel => exact ⟨(wrap64 (x88_2 + 1)), (by first | rfl | (simp; done) | (simp [*]; done)), H', ⟨by have := HJ5.out; have := HK2.out; have := HK3.out; omega⟩, ⟨by (with_reducible repeat (first | apply Kd.R_alloc | apply Kd.R_drewN | apply Kd.R_drew)); exact Kd.R_mono HO_602002.out (fun _ hk => ⟨hk.2.2.1, hk.2.2.2⟩)⟩, ⟨by (with_reducible repeat (first | apply Kd.R_alloc | apply Kd.R_drewN | apply Kd.R_drew)); exact Kd.R_mono HO_609002.out (fun _ hk => ⟨hk.2.2.1, hk.2.2.2⟩)⟩, ⟨by (with_reducible repeat (first | apply Kd.R_alloc | apply Kd.R_drewN | apply Kd.R_drew)); exact Kd.R_mono HO_616002.out (fun _ hk => ⟨hk.2.2.1, hk.2.2.2⟩)⟩, ⟨by (with_reducible repeat (first | refine blk_drewN ?_ _ | refine blk_drew ?_ | refine blk_alloc ?_ _)); exact BK601.out⟩, ⟨by (with_reducible repeat (first | refine blk_drewN ?_ _ | refine blk_drew ?_ | refine blk_alloc ?_ _)); exact BK608.out⟩, ⟨by (with_reducible repeat (first | refine blk_drewN ?_ _ | refine blk_drew ?_ | refine blk_alloc ?_ _)); exact BK615.out⟩, ⟨by repeat (first | (with_reducible first | exact HB.out | apply below_alloc | apply pw_below_drewN | apply below_drew1 | refine below_set ?_ GE601.out | refine below_set ?_ GE608.out | refine below_set ?_ GE615.out) | exact HB.out)⟩⟩
       ·rw [if_neg c71] at H
        have c71b0 : decide (x88_2 < t595) = false := decide_eq_false c71
        clear c71
        by_cases c89 : (t604.length : Int) = (wrap64 ((t597.length : Int) - 1))
        ·rw [if_pos c89] at H
         have c89b0 : ((t604.length : Int) == (wrap64 ((t597.length : Int) - 1))) = true := beq_iff_eq.mpr c89
         have c89b1 : ((t604.length : Int) != (wrap64 ((t597.length : Int) - 1))) = false := bne_eq_false_iff_eq.mpr c89
         clear c89
         replace H := Option.bind_eq_some_iff.mp H
         obtain ⟨t618, A900, H⟩ := H
         replace H : (some (!t618)) = some r := H
         have A90 := Aside0.mk A900
         clear A900
         obtain rfl := Option.some.inj H
         have hnb91 := NB608_601.out
         have hnc91 := NB601_608.out
         have hnb92 := NB608_615.out
         have hnc92 := NB615_608.out
         have hcz93_0 : wr.cell? ⟨gb608, 0, none⟩ = some (.int .i64 t602) := (blk_cell BK608.out 0).trans rfl
         have hcz93_1 : wr.cell? ⟨gb608, 1, none⟩ = some (.int .i64 t603) := (blk_cell BK608.out 1).trans rfl
         have hcz93_2 : wr.cell? ⟨gb608, 2, none⟩ = some (.slice Ao15 t604.length co15) := (blk_cell BK608.out 2).trans rfl
         have hfz93_0 := blk_frozen BK608.out 0
         have hfz93_1 := blk_frozen BK608.out 1
         have hfz93_2 := blk_frozen BK608.out 2
         have hnb94 := NB601_615.out
         have hnc94 := NB615_601.out
         have hcz95_0 : wr.cell? ⟨gb601, 0, none⟩ = some (.int .i64 t595) := (blk_cell BK601.out 0).trans rfl
         have hcz95_1 : wr.cell? ⟨gb601, 1, none⟩ = some (.int .i64 t596) := (blk_cell BK601.out 1).trans rfl
         have hcz95_2 : wr.cell? ⟨gb601, 2, none⟩ = some (.slice Ao10 t597.length co10) := (blk_cell BK601.out 2).trans rfl
         have hfz95_0 := blk_frozen BK601.out 0
         have hfz95_1 := blk_frozen BK601.out 1
         have hfz95_2 := blk_frozen BK601.out 2
         go_wp2_with (first | (go_at_call 33; (with_reducible refine (laws_wnHas.calls k2 _ _ t604 t600 t618 _ ?side1 ?side2 A90.out).mono ?_); (case side1 => repeat (first | exact (Kd.R_reads' HO_609002.out).2.2 | (with_reducible refine Kd.C_alloc ?_ _) | (with_reducible refine Kd.C_drewN ?_ _) | (with_reducible refine Kd.C_drew ?_))); (case side2 => exact (Kd.R_reads' HO_609002.out).2.1); rintro e w' ⟨rfl, ⟨nd, rfl⟩⟩))
         go_ret
         exact ⟨by first | rfl | (simp [errW_none, errW_some] <;> rfl) | (simp [*, errW_none, errW_some] <;> rfl), by repeat (first | (with_reducible first | exact HB.out | apply below_alloc | apply pw_below_drewN | apply below_drew1 | refine below_set ?_ GE601.out | refine below_set ?_ GE608.out | refine below_set ?_ GE615.out) | exact HB.out)⟩
        ·rw [if_neg c89] at H
         have c89b0 : ((t604.length : Int) == (wrap64 ((t597.length : Int) - 1))) = false := beq_eq_false_iff_ne.mpr c89
         have c89b1 : ((t604.length : Int) != (wrap64 ((t597.length : Int) - 1))) = true := bne_iff_ne.mpr c89
         obtain rfl := Option.some.inj H
         have hnb96 := NB608_601.out
         have hnc96 := NB601_608.out
         have hnb97 := NB608_615.out
         have hnc97 := NB615_608.out
         have hcz98_0 : wr.cell? ⟨gb608, 0, none⟩ = some (.int .i64 t602) := (blk_cell BK608.out 0).trans rfl
         have hcz98_1 : wr.cell? ⟨gb608, 1, none⟩ = some (.int .i64 t603) := (blk_cell BK608.out 1).trans rfl
         have hcz98_2 : wr.cell? ⟨gb608, 2, none⟩ = some (.slice Ao15 t604.length co15) := (blk_cell BK608.out 2).trans rfl
         have hfz98_0 := blk_frozen BK608.out 0
         have hfz98_1 := blk_frozen BK608.out 1
         have hfz98_2 := blk_frozen BK608.out 2
         have hnb99 := NB601_615.out
         have hnc99 := NB615_601.out
         have hcz100_0 : wr.cell? ⟨gb601, 0, none⟩ = some (.int .i64 t595) := (blk_cell BK601.out 0).trans rfl
         have hcz100_1 : wr.cell? ⟨gb601, 1, none⟩ = some (.int .i64 t596) := (blk_cell BK601.out 1).trans rfl
         have hcz100_2 : wr.cell? ⟨gb601, 2, none⟩ = some (.slice Ao10 t597.length co10) := (blk_cell BK601.out 2).trans rfl
         have hfz100_0 := blk_frozen BK601.out 0
         have hfz100_1 := blk_frozen BK601.out 1
         have hfz100_2 := blk_frozen BK601.out 2
         go_wp2
         go_ret
         exact ⟨by first | rfl | (simp [errW_none, errW_some] <;> rfl) | (simp [*, errW_none, errW_some] <;> rfl), by repeat (first | (with_reducible first | exact HB.out | apply below_alloc | apply pw_below_drewN | apply below_drew1 | refine below_set ?_ GE601.out | refine below_set ?_ GE608.out | refine below_set ?_ GE615.out) | exact HB.out)⟩

/-- THE ONE PURE STATEMENT of laws_FnMend: yours. -/
def laws_FnMend.Pure : Prop := ∀ (l0 : List Int), l0.length ≤ maxLen → l0.length * 1 ≤ 140737488351232 → (∀ x ∈ l0, (Lit.int .u8 x).wf = true) → ∃ k, laws_FnMend.f k l0 = some true
theorem laws_FnMend.walk (P : laws_FnMend.Pure) (a0 : Option Addr) (len0 cap0 : Nat) (z0 : List Int) (w : World) (w0 : (a0 = none ∧ len0 = 0 ∧ cap0 = 0 ∧ z0 = []) ∨ ∃ x, a0 = some x ∧ len0 ≤ cap0 ∧ cap0 ≤ maxLen ∧ z0.length = cap0 ∧ (∀ i, i < z0.length → w.cell? (x.add i) = some (.int .u8 (z0.getD i 0))) ∧ ∀ n ∈ z0, (Lit.int .u8 n).wf = true) (y0 : len0 * 1 ≤ 140737488351232) :
  Calls Try.prog 10 #[.slice a0 len0 cap0] w fun e w' => e = .returned (.bool true) ∧ Below w.heap.size w w' := by
 obtain ⟨l0, rfl, hr0, hm0, hw0, hc0⟩ := ReadsInt.ofRowC w0
 obtain ⟨k, h⟩ := P l0 hm0 y0 hw0
 refine (laws_FnMend.calls k _ _ l0 true w (Kd.C_of_reads (d := (0 : Int)) (h1 := fun _ => rfl) hr0) hc0 h).mono ?_
 rintro e w' ⟨rfl, hd⟩
 exact ⟨rfl, hd⟩

end Go.Proofs.Ytdnehickciaiiaa.PAll
